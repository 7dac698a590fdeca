/-
  Orders of every kind: the places of the numbers (replan.numbers).
  Orders of every kind: replan.Encode.
-/
import Derived.Test.YtjkiidhnmljmbaaGreatDoorGoL
import Derived.Test.YtjkiidhnmljmbaaGreatDoorLits
import Derived.Test.YtjkiidhnmljmbaaGreatDoorTk
import Derived.Test.YtjkiidhnmljmbaaGreatDoorOrPQ
set_option linter.unusedVariables false
set_option linter.unusedSimpArgs false
namespace Go.Proofs.YtjkiidhnmljmbaaGreatDoor
open Go.RowKit
/-- Where the numbers of an order of a kind lie. -/
def ofsK (k : Int) : List Nat := if k = 1 then [4, 5] else if k = 2 then [4] else if k = 3 then [6, 7, 8, 9, 10, 11] else if k = 4 then [13, 14, 15, 16, 17, 18, 19, 20] else if k = 5 then [21, 22, 23, 24] else []
def ptrK (g : Nat) (k : Int) : List Value := (ofsK k).map fun o => .pointer (some ⟨g, o, none⟩)
/-- The numbers of an order that its kind names. -/
def numsG (o : GOd) : List Int := if o.k = 1 then [o.e, o.n] else if o.k = 2 then [o.e] else if o.k = 3 then [o.nid, o.item, o.frs, o.ear, o.lat, o.book] else if o.k = 4 then [o.cl.kind, o.cl.item, o.cl.frm, o.cl.til, o.cl.regs, o.cl.n, o.cl.a, o.cl.b] else if o.k = 5 then [o.qid, o.qf, o.qt, o.qp] else []
theorem ofsK_len (k : Int) : (ofsK k).length ≤ 8 := by
  unfold ofsK
  by_cases h1 : k = 1
  · rw [if_pos h1]; decide
  rw [if_neg h1]
  by_cases h2 : k = 2
  · rw [if_pos h2]; decide
  rw [if_neg h2]
  by_cases h3 : k = 3
  · rw [if_pos h3]; decide
  rw [if_neg h3]
  by_cases h4 : k = 4
  · rw [if_pos h4]; decide
  rw [if_neg h4]
  by_cases h5 : k = 5
  · rw [if_pos h5]; decide
  rw [if_neg h5]; decide
theorem numsG_len (o : GOd) : (numsG o).length = (ofsK o.k).length := by
  unfold ofsK numsG
  by_cases h1 : o.k = 1
  · rw [if_pos h1, if_pos h1]; rfl
  rw [if_neg h1, if_neg h1]
  by_cases h2 : o.k = 2
  · rw [if_pos h2, if_pos h2]; rfl
  rw [if_neg h2, if_neg h2]
  by_cases h3 : o.k = 3
  · rw [if_pos h3, if_pos h3]; rfl
  rw [if_neg h3, if_neg h3]
  by_cases h4 : o.k = 4
  · rw [if_pos h4, if_pos h4]; rfl
  rw [if_neg h4, if_neg h4]
  by_cases h5 : o.k = 5
  · rw [if_pos h5, if_pos h5]; rfl
  rw [if_neg h5, if_neg h5]; rfl
theorem numsG_at (o : GOd) (j : Nat) (x : Int) (h : (numsG o)[j]? = some x) : ∃ f, (ofsK o.k)[j]? = some f ∧ f < 26 ∧ f ≠ 3 ∧ f ≠ 12 ∧ o.l[f]? = some (.int .i64 x) := by
  unfold numsG at h
  unfold ofsK
  split at h
  · rename_i hk; rw [if_pos hk]
    rcases j with _ | _ | j <;> simp at h <;> subst h
    · exact ⟨4, rfl, by decide, by decide, by decide, rfl⟩
    · exact ⟨5, rfl, by decide, by decide, by decide, rfl⟩
  rename_i h1; rw [if_neg h1]
  split at h
  · rename_i hk; rw [if_pos hk]
    rcases j with _ | j <;> simp at h <;> subst h
    exact ⟨4, rfl, by decide, by decide, by decide, rfl⟩
  rename_i h2; rw [if_neg h2]
  split at h
  · rename_i hk; rw [if_pos hk]
    rcases j with _ | _ | _ | _ | _ | _ | j <;> simp at h <;> subst h
    · exact ⟨6, rfl, by decide, by decide, by decide, rfl⟩
    · exact ⟨7, rfl, by decide, by decide, by decide, rfl⟩
    · exact ⟨8, rfl, by decide, by decide, by decide, rfl⟩
    · exact ⟨9, rfl, by decide, by decide, by decide, rfl⟩
    · exact ⟨10, rfl, by decide, by decide, by decide, rfl⟩
    · exact ⟨11, rfl, by decide, by decide, by decide, rfl⟩
  rename_i h3; rw [if_neg h3]
  split at h
  · rename_i hk; rw [if_pos hk]
    rcases j with _ | _ | _ | _ | _ | _ | _ | _ | j <;> simp at h <;> subst h
    · exact ⟨13, rfl, by decide, by decide, by decide, rfl⟩
    · exact ⟨14, rfl, by decide, by decide, by decide, rfl⟩
    · exact ⟨15, rfl, by decide, by decide, by decide, rfl⟩
    · exact ⟨16, rfl, by decide, by decide, by decide, rfl⟩
    · exact ⟨17, rfl, by decide, by decide, by decide, rfl⟩
    · exact ⟨18, rfl, by decide, by decide, by decide, rfl⟩
    · exact ⟨19, rfl, by decide, by decide, by decide, rfl⟩
    · exact ⟨20, rfl, by decide, by decide, by decide, rfl⟩
  rename_i h4; rw [if_neg h4]
  split at h
  · rename_i hk; rw [if_pos hk]
    rcases j with _ | _ | _ | _ | j <;> simp at h <;> subst h
    · exact ⟨21, rfl, by decide, by decide, by decide, rfl⟩
    · exact ⟨22, rfl, by decide, by decide, by decide, rfl⟩
    · exact ⟨23, rfl, by decide, by decide, by decide, rfl⟩
    · exact ⟨24, rfl, by decide, by decide, by decide, rfl⟩
  · simp at h
set_option maxHeartbeats 8000000 in
set_option maxRecDepth 100000 in
theorem numbers_1 (g : Nat) (W : World) (h : W.cell? ⟨g, 3, none⟩ = some (.int .i64 1)) : Calls Tryz.prog 68 #[.pointer (some ⟨g, 0, none⟩)] W fun e w' => ∃ nb, e = .returned (.slice (some ⟨nb, 0, none⟩) 2 2) ∧ Blk w' nb 97 [.pointer (some ⟨g, 4, none⟩), .pointer (some ⟨g, 5, none⟩)] ∧ W.heap.size ≤ nb ∧ Below W.heap.size W w' := by
  go_enter Tryz.func68, Tryz.ntmps68
  go_upto_region 3 with (fail)
  refine wp_region_held_drew (S := fun W => True) (by kernel_rfl) ?_ (fun hHeld => ?_)
  · trivial
  refine tk 0 (some 12) ?_
  refine tk 1 (some 13) ?_
  refine tk 2 (some 14) ?_
  refine tk 3 (some 15) ?_
  refine tk 4 (some 16) ?_
  refine tk 5 (some 17) ?_
  refine rd1 6 (some 18) (fun K hK => ?_)
  go_simp
  refine hK.out _ _ ?_ (fun hHeld2 => ?_)
  · trivial
  clear hK K hHeld
  rename _ => hHeld
  try simp only [Act.put, List.setIfInBounds_toArray, List.set_cons_zero, List.set_cons_succ]
  refine tk 7 (some 2) ?_
  refine wpAnyH_done (by kernel_rfl) ?_ _
  clear hHeld
  go_wp2_with fail
  go_ret
  exact ⟨_, rfl, Blk.new _ _ _, Nat.le_refl _, ((Below.refl _ W).drew).alloc (Nat.le_refl _) _⟩
set_option maxHeartbeats 8000000 in
set_option maxRecDepth 100000 in
theorem numbers_2 (g : Nat) (W : World) (h : W.cell? ⟨g, 3, none⟩ = some (.int .i64 2)) : Calls Tryz.prog 68 #[.pointer (some ⟨g, 0, none⟩)] W fun e w' => ∃ nb, e = .returned (.slice (some ⟨nb, 0, none⟩) 1 1) ∧ Blk w' nb 97 [.pointer (some ⟨g, 4, none⟩)] ∧ W.heap.size ≤ nb ∧ Below W.heap.size W w' := by
  go_enter Tryz.func68, Tryz.ntmps68
  go_wp2_with fail
  go_ret
  exact ⟨_, rfl, Blk.new W _ _, Nat.le_refl _, (Below.refl _ _).alloc (Nat.le_refl _) _⟩
set_option maxHeartbeats 8000000 in
set_option maxRecDepth 100000 in
theorem numbers_3 (g : Nat) (W : World) (h : W.cell? ⟨g, 3, none⟩ = some (.int .i64 3)) : Calls Tryz.prog 68 #[.pointer (some ⟨g, 0, none⟩)] W fun e w' => ∃ nb, e = .returned (.slice (some ⟨nb, 0, none⟩) 6 6) ∧ Blk w' nb 97 [.pointer (some ⟨g, 6, none⟩), .pointer (some ⟨g, 7, none⟩), .pointer (some ⟨g, 8, none⟩), .pointer (some ⟨g, 9, none⟩), .pointer (some ⟨g, 10, none⟩), .pointer (some ⟨g, 11, none⟩)] ∧ W.heap.size ≤ nb ∧ Below W.heap.size W w' := by
  go_enter Tryz.func68, Tryz.ntmps68
  go_upto_region 8 with (fail)
  refine wp_region_held_drew (S := fun W => True) (by kernel_rfl) ?_ (fun hHeld => ?_)
  · trivial
  refine tk 0 (some 30) ?_
  refine tk 1 (some 31) ?_
  refine tk 2 (some 32) ?_
  refine tk 3 (some 33) ?_
  refine tk 4 (some 34) ?_
  refine tk 5 (some 35) ?_
  refine tk 6 (some 36) ?_
  refine tk 7 (some 37) ?_
  refine tk 8 (some 38) ?_
  refine tk 9 (some 39) ?_
  refine tk 10 (some 40) ?_
  refine tk 11 (some 41) ?_
  refine tk 12 (some 42) ?_
  refine tk 13 (some 43) ?_
  refine tk 14 (some 44) ?_
  refine tk 15 (some 45) ?_
  refine tk 16 (some 46) ?_
  refine tk 17 (some 47) ?_
  refine rd1 18 (some 48) (fun K hK => ?_)
  go_simp
  refine hK.out _ _ ?_ (fun hHeld2 => ?_)
  · trivial
  clear hK K hHeld
  rename _ => hHeld
  try simp only [Act.put, List.setIfInBounds_toArray, List.set_cons_zero, List.set_cons_succ]
  refine tk 19 (some 2) ?_
  refine wpAnyH_done (by kernel_rfl) ?_ _
  clear hHeld
  go_wp2_with fail
  go_ret
  exact ⟨_, rfl, Blk.new _ _ _, Nat.le_refl _, ((Below.refl _ W).drew).alloc (Nat.le_refl _) _⟩
set_option maxHeartbeats 8000000 in
set_option maxRecDepth 100000 in
theorem numbers_4 (g : Nat) (W : World) (h : W.cell? ⟨g, 3, none⟩ = some (.int .i64 4)) : Calls Tryz.prog 68 #[.pointer (some ⟨g, 0, none⟩)] W fun e w' => ∃ nb, e = .returned (.slice (some ⟨nb, 0, none⟩) 8 8) ∧ Blk w' nb 97 [.pointer (some ⟨g, 13, none⟩), .pointer (some ⟨g, 14, none⟩), .pointer (some ⟨g, 15, none⟩), .pointer (some ⟨g, 16, none⟩), .pointer (some ⟨g, 17, none⟩), .pointer (some ⟨g, 18, none⟩), .pointer (some ⟨g, 19, none⟩), .pointer (some ⟨g, 20, none⟩)] ∧ W.heap.size ≤ nb ∧ Below W.heap.size W w' := by
  go_enter Tryz.func68, Tryz.ntmps68
  go_upto_region 11 with (fail)
  refine wp_region_held_drew (S := fun W => True) (by kernel_rfl) ?_ (fun hHeld => ?_)
  · trivial
  refine tk 0 (some 54) ?_
  refine tk 1 (some 55) ?_
  refine tk 2 (some 56) ?_
  refine tk 3 (some 57) ?_
  refine tk 4 (some 58) ?_
  refine tk 5 (some 59) ?_
  refine tk 6 (some 60) ?_
  refine tk 7 (some 61) ?_
  refine tk 8 (some 62) ?_
  refine tk 9 (some 63) ?_
  refine tk 10 (some 64) ?_
  refine tk 11 (some 65) ?_
  refine tk 12 (some 66) ?_
  refine tk 13 (some 67) ?_
  refine tk 14 (some 68) ?_
  refine tk 15 (some 69) ?_
  refine tk 16 (some 70) ?_
  refine tk 17 (some 71) ?_
  refine tk 18 (some 72) ?_
  refine tk 19 (some 73) ?_
  refine tk 20 (some 74) ?_
  refine tk 21 (some 75) ?_
  refine tk 22 (some 76) ?_
  refine tk 23 (some 77) ?_
  refine rd1 24 (some 78) (fun K hK => ?_)
  go_simp
  refine hK.out _ _ ?_ (fun hHeld2 => ?_)
  · trivial
  clear hK K hHeld
  rename _ => hHeld
  try simp only [Act.put, List.setIfInBounds_toArray, List.set_cons_zero, List.set_cons_succ]
  refine tk 25 (some 2) ?_
  refine wpAnyH_done (by kernel_rfl) ?_ _
  clear hHeld
  go_wp2_with fail
  go_ret
  exact ⟨_, rfl, Blk.new _ _ _, Nat.le_refl _, ((Below.refl _ W).drew).alloc (Nat.le_refl _) _⟩
set_option maxHeartbeats 8000000 in
set_option maxRecDepth 100000 in
theorem numbers_5 (g : Nat) (W : World) (h : W.cell? ⟨g, 3, none⟩ = some (.int .i64 5)) : Calls Tryz.prog 68 #[.pointer (some ⟨g, 0, none⟩)] W fun e w' => ∃ nb, e = .returned (.slice (some ⟨nb, 0, none⟩) 4 4) ∧ Blk w' nb 97 [.pointer (some ⟨g, 21, none⟩), .pointer (some ⟨g, 22, none⟩), .pointer (some ⟨g, 23, none⟩), .pointer (some ⟨g, 24, none⟩)] ∧ W.heap.size ≤ nb ∧ Below W.heap.size W w' := by
  go_enter Tryz.func68, Tryz.ntmps68
  go_upto_region 14 with (fail)
  refine wp_region_held_drew (S := fun W => True) (by kernel_rfl) ?_ (fun hHeld => ?_)
  · trivial
  refine tk 0 (some 84) ?_
  refine tk 1 (some 85) ?_
  refine tk 2 (some 86) ?_
  refine tk 3 (some 87) ?_
  refine tk 4 (some 88) ?_
  refine tk 5 (some 89) ?_
  refine tk 6 (some 90) ?_
  refine tk 7 (some 91) ?_
  refine tk 8 (some 92) ?_
  refine tk 9 (some 93) ?_
  refine tk 10 (some 94) ?_
  refine tk 11 (some 95) ?_
  refine rd1 12 (some 96) (fun K hK => ?_)
  go_simp
  refine hK.out _ _ ?_ (fun hHeld2 => ?_)
  · trivial
  clear hK K hHeld
  rename _ => hHeld
  try simp only [Act.put, List.setIfInBounds_toArray, List.set_cons_zero, List.set_cons_succ]
  refine tk 13 (some 2) ?_
  refine wpAnyH_done (by kernel_rfl) ?_ _
  clear hHeld
  go_wp2_with fail
  go_ret
  exact ⟨_, rfl, Blk.new _ _ _, Nat.le_refl _, ((Below.refl _ W).drew).alloc (Nat.le_refl _) _⟩
theorem gNumbers (g : Nat) (k : Int) (W : World) (hk : 1 ≤ k ∧ k ≤ 5) (h : W.cell? ⟨g, 3, none⟩ = some (.int .i64 k)) : Calls Tryz.prog 68 #[.pointer (some ⟨g, 0, none⟩)] W fun e w' => ∃ nb, e = .returned (.slice (some ⟨nb, 0, none⟩) (ofsK k).length (ofsK k).length) ∧ Blk w' nb 97 (ptrK g k) ∧ W.heap.size ≤ nb ∧ Below W.heap.size W w' := by
  rcases (show k = 1 ∨ k = 2 ∨ k = 3 ∨ k = 4 ∨ k = 5 from by omega) with rfl | rfl | rfl | rfl | rfl
  · exact numbers_1 g W h
  · exact numbers_2 g W h
  · exact numbers_3 g W h
  · exact numbers_4 g W h
  · exact numbers_5 g W h
end Go.Proofs.YtjkiidhnmljmbaaGreatDoor
namespace Go.Proofs.YtjkiidhnmljmbaaGreatDoor
open Go.RowKit Onair
def altI (al : List (Int × Int)) : List Int := al.flatMap fun p => [p.1, p.2]
def tailG (o : GOd) (al : List (Int × Int)) : List UInt8 := if o.k = 3 then encI [(al.length : Int)] ++ encI (altI al) else if o.k = 5 then putSL o.txt.data.toList else []
/-- The encoding of an order. -/
def encG (o : GOd) (al : List (Int × Int)) : List UInt8 := encI [o.s, o.ch, o.f, o.k] ++ encI (numsG o) ++ tailG o al
theorem encI_app (a b : List Int) : encI (a ++ b) = encI a ++ encI b := by simp [encI]
theorem encI_one (a : Int) : encI [a] = putL a := by simp [encI]
theorem altI_snoc (al : List (Int × Int)) (i : Nat) (p : Int × Int) (h : al[i]? = some p) : encI (altI (al.take (i + 1))) = encI (altI (al.take i)) ++ putL p.1 ++ putL p.2 := by
  rw [List.take_add_one, h]
  simp [altI, encI]
theorem altI_len (al : List (Int × Int)) (i : Nat) : (encI (altI (al.take i))).length ≤ 18 * al.length := by
  have h1 := encI_len (altI (al.take i))
  have h2 : (altI (al.take i)).length = 2 * (al.take i).length := by
    generalize al.take i = l
    induction l with
    | nil => rfl
    | cons p l ih => simp only [altI, List.flatMap_cons, List.length_append, List.length_cons, List.length_nil] at *; omega
  have h3 := List.length_take_le i al
  rw [h2] at h1
  have h4 := List.length_take_le' i al
  omega
theorem putSL_any (t : List UInt8) : (putSL t).length ≤ 65545 := by
  unfold putSL
  split
  · simp
  · have := putL_len (t.length : Int); rw [List.length_append]; omega
theorem Bld.ltB {B b : Nat} {l : List UInt8} {w : World} (h : Bld B b l w) : b < w.heap.size := by
  rcases h with ⟨_, v, hb, _⟩ | ⟨_, v, hb, _⟩
  · exact (Array.getElem?_eq_some_iff.1 hb).1
  · exact (Array.getElem?_eq_some_iff.1 hb).1
theorem okB_kind {o : GOd} {al : List (Int × Int)} (h : okB o al = true) : 1 ≤ o.k ∧ o.k ≤ 5 := by
  unfold okB at h
  simp only [Bool.and_eq_true] at h
  have h2 := h.2
  split at h2
  · omega
  split at h2
  · omega
  split at h2
  · omega
  split at h2
  · omega
  split at h2
  · omega
  · cases h2
theorem putK_ne (k : Int) (h : 1 ≤ k ∧ k ≤ 5) : putL k ≠ [] := by
  rcases (show k = 1 ∨ k = 2 ∨ k = 3 ∨ k = 4 ∨ k = 5 from by omega) with rfl | rfl | rfl | rfl | rfl <;> decide
theorem headE_ne (o : GOd) (t : List UInt8) (h : 1 ≤ o.k ∧ o.k ≤ 5) : encI [o.s, o.ch, o.f, o.k] ++ t ≠ [] := by
  intro e
  have h1 := (List.append_eq_nil_iff.1 e).1
  have h2 : encI [o.s, o.ch, o.f] ++ encI [o.k] = [] := by rw [← encI_app]; exact h1
  have h3 := (List.append_eq_nil_iff.1 h2).2
  rw [encI_one] at h3
  exact putK_ne o.k h h3
set_option maxHeartbeats 8000000 in
set_option maxRecDepth 100000 in
theorem gREnc_ok (o : GOd) (al : List (Int × Int)) (W : World) (hok : okB o al = true) (hn : al.length = o.an) (hlm : o.an ≤ 1000000) (hr : RdA W o.ao al) (hts : o.txt.size ≤ maxLen) : Calls Tryz.prog 31 #[.agg o.l.toArray] W fun e w' => e = .returned (.tuple #[.string ⟨(encG o al).toArray⟩, .int .i64 0]) ∧ Below W.heap.size W w' := by
  have hmf : ∀ (fn : Fn) (first cap : Array Value) (w : World), (Instr.makeFunc fn first cap).run Tryz.prog w = .ok (.func fn first cap) w := fun _ _ _ _ => rfl
  obtain ⟨N, hN⟩ : ∃ N, W.heap.size = N := ⟨_, rfl⟩
  obtain ⟨w1, hw1⟩ : ∃ w1, W.alloc (.cells (aO o) 30) = w1 := ⟨_, rfl⟩
  have hb1 : Below N W w1 := by rw [← hw1, ← hN]; exact (Below.refl _ W).alloc (Nat.le_refl _) _
  have hk1 : Blk w1 N 30 o.l := by rw [← hw1, ← hN]; exact Blk.new W _ o.l
  have HSZ := Lib.hid (show (Tryz.prog.info? 30).map (·.size) = some 26 from by kernel_rfl)
  have HR1 := Lib.hid hk1.range
  have HK1 := Lib.hid hk1
  have HN := Lib.hid hN
  have HB1 := Lib.hid hb1
  have HVL := Lib.hid (gValid o al w1 hn hlm (hr.kept (hN ▸ hb1)) hts)
  show Calls Tryz.prog 31 #[.agg (aO o)] W _
  rw [hok] at HVL
  have hkr := okB_kind hok
  have HKR := Lib.hid hkr
  have HRA := Lib.hid (hr.kept (hN ▸ hb1))
  have HAL := Lib.hid hn
  have HTS := Lib.hid hts
  have HLM := Lib.hid hlm
  clear hb1 hk1 hn hlm hr hts hok hkr
  go_enter Tryz.func31, Tryz.ntmps31
  go_wp2_with (refine wpList_load_mid rfl 30 (.tmp 1) rfl N 0 rfl o.l _ HR1.out Tryz.underlying30 rfl HSZ.out ?_)
  refine HVL.out.mono ?_
  rintro e w2 ⟨rfl, hb2⟩
  have HK2 := Lib.hid (HK1.out.kept (hb2.block N HK1.out.lt))
  have HRA2 := Lib.hid (HRA.out.kept hb2)
  have HB2 : Hid (Below N W w2) := HB1.out.trans (hb2.mono (bnl9 HN.out HB1.out))
  obtain ⟨b, hb⟩ : ∃ b, w2.heap.size = b := ⟨_, rfl⟩
  have HNb : Hid (N < b) := (by rw [← hb]; exact HK2.out.lt : N < b)
  obtain ⟨w3, hw3⟩ : ∃ w3, w2.alloc (.cells #[.pointer none, .slice none 0 0] 77) = w3 := ⟨_, rfl⟩
  have hbl3 : Bld b b [] w3 := by rw [← hw3, ← hb]; exact Lib.fresh_isBuilder _ _ w2
  have hb3 : Below b w2 w3 := by rw [← hw3, ← hb]; exact (Below.refl _ w2).alloc (Nat.le_refl _) _
  have hz3 : w3.heap.size = b + 1 := by rw [← hw3, World.size_alloc, hb]
  have hk3 := HK2.out.kept (hb3.block N HNb.out)
  obtain ⟨c0, c1, c2, c3, _, _⟩ := cellsO hk3
  obtain ⟨w4, hw4⟩ : ∃ w4, w3.alloc (.cells #[.int .i64 o.s, .int .i64 o.ch, .int .i64 o.f, .int .i64 o.k] 3) = w4 := ⟨_, rfl⟩
  have hk4 : Blk w4 (b + 1) 3 [.int .i64 o.s, .int .i64 o.ch, .int .i64 o.f, .int .i64 o.k] := by rw [← hw4, ← hz3]; exact Blk.new w3 _ _
  have hb4 : Below w3.heap.size w3 w4 := by rw [← hw4]; exact (Below.refl _ w3).alloc (Nat.le_refl _) _
  have HBL4 := Lib.hid (hbl3.below hb4)
  have HB4 : Hid (Below b w2 w4) := hb3.trans (hb4.mono (by omega))
  have HK4 := Lib.hid hk4
  have HBB := Lib.hid hb
  clear hb2 HR1 HVL hbl3 hb3 hk3 hk4 hb4
  go_wp2_with fail
  clear c0 c1 c2 c3 hw3 hw4 hz3 hb hw1
  go_loopw [28] (fun vi wr => ∃ (j : Nat), j ≤ 4 ∧ vi = .int .i64 j ∧ Hid (Bld b b (encI ([o.s, o.ch, o.f, o.k].take j)) wr) ∧ Hid (Blk wr (b + 1) 3 [.int .i64 o.s, .int .i64 o.ch, .int .i64 o.f, .int .i64 o.k]) ∧ Hid (Below b w2 wr)) (fun v _ => 4 - (intOf v).toNat)
  case atStart => exact ⟨0, by omega, rfl, HBL4, HK4, HB4⟩
  case round =>
    clear HBL4 HK4 HB4
    obtain ⟨j, hj, rfl, HBL, HK, HB⟩ := hrel
    have hbz : b ≤ wr.heap.size := by have := HK.out.lt; omega
    by_cases h : j < 4
    · have q1 : (j : Int) < 4 := by omega
      obtain ⟨x, hx⟩ : ∃ x, [o.s, o.ch, o.f, o.k][j]? = some x := ⟨([o.s, o.ch, o.f, o.k] : List Int)[j]'h, List.getElem?_eq_getElem _⟩
      have cx : wr.cell? ⟨b + 1, j, none⟩ = some (.int .i64 x) := by
        rw [HK.out.cell j]
        rcases (show j = 0 ∨ j = 1 ∨ j = 2 ∨ j = 3 from by omega) with rfl | rfl | rfl | rfl <;> (simp at hx; subst hx; rfl)
      have HX := Lib.hid (encI_snoc _ j x hx)
      have hle : (encI ([o.s, o.ch, o.f, o.k].take j)).length ≤ 1000000000 := by
        have := encI_len ([o.s, o.ch, o.f, o.k].take j)
        have := List.length_take_le j ([o.s, o.ch, o.f, o.k] : List Int)
        have h4 : ([o.s, o.ch, o.f, o.k] : List Int).length = 4 := rfl
        omega
      clear hx
      go_wp2_with fail
      refine (putO_any b b _ x wr HBL.out hle hbz).mono ?_
      rintro e w5 ⟨⟨v, rfl⟩, h5, hb5, hk5⟩
      rw [← HX.out] at h5
      have HBL5 := Lib.hid h5
      have HB5 := Lib.hid (HB.out.trans hb5)
      have HK5 := Lib.hid (hk5 _ _ _ (by decide) (by omega) HK.out)
      clear h5 hb5 hk5 cx hle
      go_wp2_with fail
      go_roundw
      case rel => exact ⟨j + 1, by omega, by go_num, HBL5, HK5, HB5⟩
      case measure => simp [intOf]; omega
    · have q1 : ¬ (j : Int) < 4 := by omega
      obtain rfl : j = 4 := by omega
      have hk9 := HK2.out.kept (HB.out.block N HNb.out)
      have HC := Lib.hid (gNumbers N o.k wr HKR.out (cellsO hk9).2.2.2.1)
      clear h hk9
      go_wp2_with fail
      refine HC.out.mono ?_
      rintro e w6 ⟨nb, rfl, hkn, hnb, hb6⟩
      have HBL6 : Hid (Bld b b (encI [o.s, o.ch, o.f, o.k] ++ encI ((numsG o).take 0)) w6) := (by have := HBL.out.below hb6; simpa [encI] using this : Bld b b (encI [o.s, o.ch, o.f, o.k] ++ encI ((numsG o).take 0)) w6)
      have HB6 : Hid (Below b w2 w6) := HB.out.trans (hb6.mono hbz)
      have HKN := Lib.hid hkn
      have HNB : Hid (b < nb) := (by have := HK.out.lt; omega : b < nb)
      have HNL := Lib.hid (numsG_len o)
      have h8 := ofsK_len o.k
      clear HBL HB HK HC hkn hnb hb6 hbz hj
      obtain ⟨n, hnn⟩ : ∃ n, (ofsK o.k).length = n := ⟨_, rfl⟩
      rw [hnn] at HNL h8 ⊢
      have HNN := Lib.hid hnn
      clear hnn
      go_wp2_with fail
      go_loopw [38] (fun vi wr => ∃ (j : Nat), j ≤ n ∧ vi = .int .i64 j ∧ Hid (Bld b b (encI [o.s, o.ch, o.f, o.k] ++ encI ((numsG o).take j)) wr) ∧ Hid (Blk wr nb 97 (ptrK N o.k)) ∧ Hid (Below b w2 wr)) (fun v _ => n - (intOf v).toNat)
      case atStart => exact ⟨0, by omega, rfl, HBL6, HKN, HB6⟩
      case round =>
        clear HBL6 HKN HB6
        obtain ⟨j, hj, rfl, HBL, HK, HB⟩ := hrel
        have hbz : b ≤ wr.heap.size := by have := HK.out.lt; have := HNB.out; omega
        have hk9 := HK2.out.kept (HB.out.block N HNb.out)
        by_cases h : j < n
        · have q1 : (j : Int) < (n : Int) := by omega
          have q2 : (0 : Int) ≤ (j : Int) := by omega
          obtain ⟨x, hx⟩ : ∃ x, (numsG o)[j]? = some x := ⟨(numsG o)[j]'(by rw [HNL.out]; exact h), List.getElem?_eq_getElem _⟩
          obtain ⟨f, hf, _, _, _, hcl⟩ := numsG_at o j x hx
          have n0 : wr.cell? ⟨nb, j, none⟩ = some (.pointer (some ⟨N, f, none⟩)) := by rw [HK.out.cell j, ptrK, List.getElem?_map, hf]; rfl
          have cx : wr.cell? ⟨N, f, none⟩ = some (.int .i64 x) := (hk9.cell f).trans hcl
          have HX := Lib.hid (encI_snoc _ j x hx)
          have hle : (encI [o.s, o.ch, o.f, o.k] ++ encI ((numsG o).take j)).length ≤ 1000000000 := by
            have h1 := encI_len [o.s, o.ch, o.f, o.k]
            have h2 := encI_len ((numsG o).take j)
            have h3 := List.length_take_le j (numsG o)
            have h4 : ([o.s, o.ch, o.f, o.k] : List Int).length = 4 := rfl
            rw [List.length_append]
            omega
          clear h hx hf hcl hk9
          go_wp2_with fail
          refine (putO_any b b _ x wr HBL.out hle hbz).mono ?_
          rintro e w5 ⟨⟨v, rfl⟩, h5, hb5, hk5⟩
          rw [List.append_assoc, ← HX.out] at h5
          have HBL5 := Lib.hid h5
          have HB5 := Lib.hid (HB.out.trans hb5)
          have HK5 := Lib.hid (hk5 _ _ _ (by decide) (by have := HNB.out; omega) HK.out)
          clear h5 hb5 hk5 hle n0 cx
          go_wp2_with fail
          go_roundw
          case rel => exact ⟨j + 1, by omega, by go_num, HBL5, HK5, HB5⟩
          case measure => simp [intOf]; omega
        · have q1 : ¬ (j : Int) < (n : Int) := by omega
          obtain rfl : j = n := by omega
          have hbl := HBL.out
          rw [List.take_of_length_le (by rw [HNL.out]; exact Nat.le_refl _)] at hbl
          obtain ⟨PL, hPL⟩ : ∃ PL, encI [o.s, o.ch, o.f, o.k] ++ encI (numsG o) = PL := ⟨_, rfl⟩
          have HPN : Hid (∀ t, PL ++ t ≠ []) := (fun t => by rw [← hPL, List.append_assoc]; exact headE_ne o _ HKR.out : ∀ t, PL ++ t ≠ [])
          have hpl : PL.length ≤ 108 := by
            have h1 := encI_len [o.s, o.ch, o.f, o.k]
            have h2 := encI_len (numsG o)
            rw [HNL.out] at h2
            have h4 : ([o.s, o.ch, o.f, o.k] : List Int).length = 4 := rfl
            rw [← hPL, List.length_append]
            omega
          have HEG : Hid (encG o al = PL ++ tailG o al) := (by rw [← hPL]; rfl : encG o al = PL ++ tailG o al)
          rw [hPL] at hbl
          have HBLX := Lib.hid hbl
          have HBX := HB
          have c3 : wr.cell? ⟨N, 3, none⟩ = some (.int .i64 o.k) := (cellsO hk9).2.2.2.1
          have c12 : wr.cell? ⟨N, 12, none⟩ = some (.slice o.ao o.an o.ac) := hk9.cell 12
          have c25 : wr.cell? ⟨N, 25, none⟩ = some (.string o.txt) := hk9.cell 25
          clear h hk9 hbl hPL HBL HK HB hj
          by_cases k3 : o.k = 3
          · rw [k3] at c3
            have HTL : Hid (tailG o al = encI [(al.length : Int)] ++ encI (altI al)) := (by rw [tailG, if_pos k3] : tailG o al = encI [(al.length : Int)] ++ encI (altI al))
            rw [HAL.out] at HTL
            obtain ⟨an, han⟩ : ∃ an, o.an = an := ⟨_, rfl⟩
            have HAL2 : Hid (al.length = an) := HAL.out.trans han
            have hlm : an ≤ 1000000 := by rw [← han]; exact HLM.out
            rw [han] at c12 HTL
            have HAN := Lib.hid han
            clear k3 c25 han
            go_wp2_with fail
            refine (putO_any b b _ (an : Int) wr HBLX.out (by omega) hbz).mono ?_
            rintro e w5 ⟨⟨v, rfl⟩, h5, hb5, hk5⟩
            have HBL5 := Lib.hid h5
            have HB5 := Lib.hid (HBX.out.trans hb5)
            have HZ5 : Hid (b ≤ w5.heap.size) := (by have := hb5.size; omega : b ≤ w5.heap.size)
            have hk9 := HK2.out.kept (HB5.out.block N HNb.out)
            have c12 : w5.cell? ⟨N, 12, none⟩ = some (.slice o.ao o.an o.ac) := hk9.cell 12
            rw [HAN.out] at c12
            clear h5 hb5 hk5 hk9 HBLX HBX c3
            go_wp2_with fail
            go_loopw [62] (fun vi wr => ∃ (i : Nat), i ≤ an ∧ vi = .int .i64 i ∧ Hid (Bld b b (PL ++ putL (an : Int) ++ encI (altI (al.take i))) wr) ∧ Hid (b ≤ wr.heap.size) ∧ Hid (Below b w2 wr)) (fun v _ => an - (intOf v).toNat)
            case atStart => exact ⟨0, Nat.zero_le _, rfl, by simpa [altI, encI] using HBL5, HZ5, HB5⟩
            case round =>
              clear HBL5 HZ5 HB5 c12
              obtain ⟨i, hi, rfl, HBL, HZ, HB⟩ := hrel
              by_cases h : i < an
              · have q1 : (i : Int) < (an : Int) := by omega
                have q2 : (0 : Int) ≤ (i : Int) := by omega
                have q3 : (i : Int) * 2 ≤ 2000000 := by omega
                obtain ⟨p, hp⟩ : ∃ p, al[i]? = some p := ⟨al[i]'(by rw [HAL2.out]; exact h), List.getElem?_eq_getElem _⟩
                obtain ⟨ab, off, hao, hlt, a0, a1⟩ := (HRA2.out.kept (HBB.out.symm ▸ HB.out)).at i p hp
                have HX := Lib.hid (altI_snoc al i p hp)
                have hle : (PL ++ putL (an : Int) ++ encI (altI (al.take i))).length ≤ 100000000 := by
                  have h1 := altI_len al i
                  rw [HAL2.out] at h1
                  have h2 := putL_len (an : Int)
                  rw [List.length_append, List.length_append]
                  omega
                rw [hao]
                obtain ⟨pr, pi⟩ := p
                dsimp only at a0 a1 HX
                obtain ⟨M, hM⟩ : ∃ M, wr.heap.size = M := ⟨_, rfl⟩
                obtain ⟨w7, hw7⟩ : ∃ w7, wr.alloc (.cells #[.int .i64 0, .int .i64 0] 140) = w7 := ⟨_, rfl⟩
                have hb7 : Below wr.heap.size wr w7 := by rw [← hw7]; exact (Below.refl _ _).alloc (Nat.le_refl _) _
                have hk7 : Blk w7 M 140 [.int .i64 0, .int .i64 0] := by rw [← hw7, ← hM]; exact Blk.new wr _ _
                have x0 : w7.cell? ⟨M, 0, none⟩ = some (.int .i64 0) := hk7.cell 0
                have x1 : w7.cell? ⟨M, 1, none⟩ = some (.int .i64 0) := hk7.cell 1
                have y0 := hk7.frozen 0
                have y1 := hk7.frozen 1
                obtain ⟨w8, hw8⟩ : ∃ w8, (w7.setCell ⟨M, 0, none⟩ (.int .i64 pr)).setCell ⟨M, 1, none⟩ (.int .i64 pi) = w8 := ⟨_, rfl⟩
                have hk8 : Blk w8 M 140 [.int .i64 pr, .int .i64 pi] := by rw [← hw8]; exact (hk7.set 0 (.int .i64 pr)).set 1 (.int .i64 pi)
                have hb8 : Below wr.heap.size wr w8 := by rw [← hw8]; exact (hb7.setCell (p := ⟨M, 0, none⟩) (by show _ ≤ M; omega) _).setCell (p := ⟨M, 1, none⟩) (by show _ ≤ M; omega) _
                have HBL8 := Lib.hid (HBL.out.below hb8)
                have HB8 : Hid (Below b w2 w8) := HB.out.trans (hb8.mono HZ.out)
                have HZ8 : Hid (b ≤ w8.heap.size) := (by have := hb8.size; have := HZ.out; omega : b ≤ w8.heap.size)
                have HK8 := Lib.hid hk8
                have d0 : w8.cell? ⟨M, 0, none⟩ = some (.int .i64 pr) := hk8.cell 0
                have HMb : Hid (b ≤ M) := (by have := HZ.out; omega : b ≤ M)
                have HMb2 : Hid (b < M) := (by have := HBL.out; have := Bld.ltB this; omega : b < M)
                clear hp hao hlt hb7 hk7 hk8 hb8 HBL HZ HB
                go_wp2_with fail
                refine (putO_any b b _ pr w8 HBL8.out (by omega) HZ8.out).mono ?_
                rintro e w9 ⟨⟨v2, rfl⟩, h9, hb9, hk9⟩
                have HBL9 := Lib.hid h9
                have HB9 := Lib.hid (HB8.out.trans hb9)
                have HZ9 : Hid (b ≤ w9.heap.size) := (by have := hb9.size; have := HZ8.out; omega : b ≤ w9.heap.size)
                have HK9 := Lib.hid (hk9 _ _ _ (by decide) (by have := HMb2.out; omega) HK8.out)
                have d1 : w9.cell? ⟨M, 1, none⟩ = some (.int .i64 pi) := HK9.out.cell 1
                clear h9 hb9 hk9 HBL8 HB8 HZ8 HK8 d0 a0 a1 x0 x1 y0 y1 hw7 hw8 hM
                go_wp2_with fail
                refine (putO_any b b _ pi w9 HBL9.out (by have := putL_len pr; rw [List.length_append]; omega) HZ9.out).mono ?_
                rintro e w10 ⟨⟨v3, rfl⟩, h10, hb10, hk10⟩
                have HBL10 : Hid (Bld b b (PL ++ putL (an : Int) ++ encI (altI (al.take (i + 1)))) w10) := (by rw [HX.out]; simpa [List.append_assoc] using h10 : Bld b b (PL ++ putL (an : Int) ++ encI (altI (al.take (i + 1)))) w10)
                have HB10 := Lib.hid (HB9.out.trans hb10)
                have HZ10 : Hid (b ≤ w10.heap.size) := (by have := hb10.size; have := HZ9.out; omega : b ≤ w10.heap.size)
                clear h10 hb10 hk10 HBL9 HB9 HZ9 HK9 d1 hle HX
                go_wp2_with fail
                go_roundw
                case rel => exact ⟨i + 1, by omega, by go_num, HBL10, HZ10, HB10⟩
                case measure => simp [intOf]; omega
              · have q1 : ¬ (i : Int) < (an : Int) := by omega
                obtain rfl : i = an := by omega
                have hst := HBL.out
                rw [List.take_of_length_le (by rw [HAL2.out]; exact Nat.le_refl _), List.append_assoc, ← encI_one, ← HTL.out] at hst
                have HST := Lib.hid (string_keeps b b (PL ++ tailG o al) wr hst (HPN.out _))
                have HBX := HB
                clear h hst
                go_wp2_with fail
                refine HST.out.mono ?_
                rintro e w7 ⟨rfl, hb7, _⟩
                have HB7 : Hid (Below N W w7) := HB2.out.trans ((HBX.out.trans hb7).mono (Nat.le_of_lt HNb.out))
                clear hb7
                go_wp2_with fail
                go_ret2
                exact ⟨by rw [HEG.out]; rfl, by rw [HN.out]; exact HB7.out⟩
          have k3' : (o.k == 3) = false := beq_eq_false_iff_ne.2 k3
          by_cases k5 : o.k = 5
          · rw [k5] at c3
            have HTL : Hid (tailG o al = putSL o.txt.data.toList) := (by rw [tailG, if_neg k3, if_pos k5] : tailG o al = putSL o.txt.data.toList)
            have HPS := Lib.hid (fun w => putString_any o.txt w HTS.out)
            clear k3 k5 k3' c12
            go_wp2_with fail
            refine (HPS.out _).mono ?_
            rintro e w7 ⟨rfl, hb7⟩
            have HBL7 := Lib.hid (HBLX.out.below hb7)
            have HB7 : Hid (Below b w2 w7) := HBX.out.trans (hb7.mono hbz)
            have HZ7 : Hid (b ≤ w7.heap.size) := (by have := hb7.size; omega : b ≤ w7.heap.size)
            obtain ⟨y, hy⟩ : ∃ y : ByteArray, (⟨(putSL o.txt.data.toList).toArray⟩ : ByteArray) = y := ⟨_, rfl⟩
            have hyl : y.data.toList = putSL o.txt.data.toList := by rw [← hy]
            have hys : y.size ≤ 65545 := by rw [← blen, hyl]; exact putSL_any _
            rw [hy]
            have HYL := Lib.hid hyl
            clear hb7 hy hyl HBLX HBX
            go_wp2_with fail
            refine (writeString_any b b _ y w7 HBL7.out (by omega) HZ7.out).mono ?_
            rintro e w8 ⟨⟨v, rfl⟩, h8, hb8, _⟩
            rw [HYL.out, ← HTL.out] at h8
            have HBX := Lib.hid (HB7.out.trans hb8)
            have HST := Lib.hid (string_keeps b b (PL ++ tailG o al) w8 h8 (HPN.out _))
            clear h8 hb8 HBL7 HB7 HZ7
            go_wp2_with fail
            refine HST.out.mono ?_
            rintro e w7 ⟨rfl, hb7, _⟩
            have HB7 : Hid (Below N W w7) := HB2.out.trans ((HBX.out.trans hb7).mono (Nat.le_of_lt HNb.out))
            clear hb7
            go_wp2_with fail
            go_ret2
            exact ⟨by rw [HEG.out]; rfl, by rw [HN.out]; exact HB7.out⟩
          · have k5' : (o.k == 5) = false := beq_eq_false_iff_ne.2 k5
            have hst := HBLX.out
            have htl : tailG o al = [] := by rw [tailG, if_neg k3, if_neg k5]
            rw [← List.append_nil PL, ← htl] at hst
            have HST := Lib.hid (string_keeps b b (PL ++ tailG o al) wr hst (HPN.out _))
            clear k3 k5 hst htl c12 c25
            go_wp2_with fail
            refine HST.out.mono ?_
            rintro e w7 ⟨rfl, hb7, _⟩
            have HB7 : Hid (Below N W w7) := HB2.out.trans ((HBX.out.trans hb7).mono (Nat.le_of_lt HNb.out))
            clear hb7
            go_wp2_with fail
            go_ret2
            exact ⟨by rw [HEG.out]; rfl, by rw [HN.out]; exact HB7.out⟩
end Go.Proofs.YtjkiidhnmljmbaaGreatDoor
