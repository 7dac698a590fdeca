/-
  The walks of digest.Verify, VerifyExtension.
-/
import Derived.WalkKit
import Derived.LoopTactic
import Derived.WalkSpells
import Derived.WalkLawsBesides
import Derived.IntWalk
import Derived.Outline
import Derived.Deep.QuietTactic
import Derived.BigQuiet
import Derived.Deep.RegionLaw
import Derived.Deep.RegionHeld3
import Derived.Deep.DrawnRows
import Derived.Deep.AppendLies
import Derived.Deep.LoopGhost
import Derived.WalkMore
import Derived.Laws.EntriesVeiled
import Derived.Lib.Hide
import Derived.Test.YtggnldljfjhhcaaDoorDigL
set_option linter.unusedVariables false
set_option linter.unusedSimpArgs false
namespace Go.Proofs.YtggnldljfjhhcaaDoor
open Go.RowKit Onair
attribute [local go_sem ↓] Go.wp_at_zero Go.wp_at_succ
theorem beq_dec (a b : ByteArray) : (a.toList == b.toList) = decide (a = b) := by
  rw [Bool.eq_iff_iff, beq_iff_eq, decide_eq_true_iff, ByteArray.toList_eq, ByteArray.toList_eq]
  exact ⟨fun e => ByteArray.ext (Array.ext' e), fun e => by rw [e]⟩
theorem digB_sz {p : List ByteArray} (h : digB p = true) : SzB 32 p := fun x hx => by
  have := List.all_eq_true.1 h x hx
  have := (beq_iff_eq (a := x.size) (b := 32)).1 this
  omega
set_option maxHeartbeats 2000000 in
theorem verify_out (root : ByteArray) (n i : Int) (s : ByteArray) (oa : Option Addr) (m cap : Nat) (w : World) (h : i < 0 ∨ n ≤ i) :
    Calls Tryd.prog 20 #[.string root, .int .i64 n, .int .i64 i, .string s, .slice oa m cap] w fun e w' => e = .returned (.bool false) ∧ Below w.heap.size w w' := by
  by_cases h0 : i < 0
  · clear h
    go_enter Tryd.func20, Tryd.ntmps20
    go_wp2_with fail
    go_ret
    exact ⟨rfl, Below.refl _ _⟩
  · have h1 : n ≤ i := by omega
    have h2 : 0 ≤ i := by omega
    clear h
    go_enter Tryd.func20, Tryd.ntmps20
    go_wp2_with fail
    go_ret
    exact ⟨rfl, Below.refl _ _⟩
theorem rdl_one (w : World) (oa : Option Addr) (cap : Nat) (p : List ByteArray) (hp : p.length ≤ 1000000) (hr : RdS w oa p) : RdL (w.alloc (.cells #[.slice oa p.length cap] 22)) w.heap.size [(oa, cap, p)] := fun j q hj => by
  match j, hj with
  | 0, hj =>
    obtain rfl : (oa, cap, p) = q := by simpa using hj
    exact ⟨(Blk.new w 22 [.slice oa p.length cap]).cell 0, hr.kept ((Below.refl _ w).alloc (Nat.le_refl _) _), hp⟩
  | j + 1, hj => simp at hj
set_option maxHeartbeats 2000000 in
theorem verify_in (root : ByteArray) (n i : Nat) (s : ByteArray) (oa : Option Addr) (p : List ByteArray) (cap : Nat) (w : World) (hi : i < n) (hn : n ≤ 9223372036854775807) (hs : s.size ≤ 900000000) (hp : p.length ≤ 1000000) (hpc : p.length ≤ cap) (hcc : cap ≤ 9223372036854775807) (hr : RdS w oa p) (ht : TabAt w) :
    Calls Tryd.prog 20 #[.string root, .int .i64 (n : Int), .int .i64 (i : Int), .string s, .slice oa p.length cap] w fun e w' => e = .returned (.bool (verB root n i s p)) ∧ Below w.heap.size w w' := by
  have hb1 : Below w.heap.size w (w.alloc (.cells #[.slice oa p.length cap] 22)) := (Below.refl _ w).alloc (Nat.le_refl _) _
  have hdl : digLs [(oa, cap, p)] = digB p := by simp [digLs]
  have HDG := Lib.hid (digests_any w.heap.size 1 [(oa, cap, p)] _ (by simp) (rdl_one w oa cap p hp hr))
  rw [hdl] at HDG
  have HB1 := Lib.hid hb1
  have i0 : ¬ (i : Int) < 0 := by omega
  have i1 : ¬ (n : Int) ≤ (i : Int) := by omega
  have i2 : (i : Int) < (n : Int) := by omega
  cases hd : digB p with
  | false =>
    have HV : Hid (verB root n i s p = false) := by show _ = _; unfold verB; rw [hd, Bool.and_false, Bool.false_and, Bool.false_and]
    rw [hd] at HDG
    clear hd hr ht hb1 hdl
    go_enter Tryd.func20, Tryd.ntmps20
    go_wp2_with fail
    refine HDG.out.mono ?_
    rintro e w2 ⟨rfl, rfl⟩
    go_wp2_with fail
    go_ret
    exact ⟨by rw [HV.out]; rfl, HB1.out⟩
  | true =>
    rw [hd] at HDG
    have HVL := Lib.hid (value_any p.length p oa p.length n i cap s _ rfl rfl hpc hp hcc hn hi hs (digB_sz hd) (hr.kept hb1) (ht.below hb1))
    have hv : verB root n i s p = ((valR p.reverse n i s).2 && decide ((valR p.reverse n i s).1 = root)) := by unfold verB; rw [hd, decide_eq_true hi]; rfl
    have HV := Lib.hid hv
    obtain ⟨V, hV⟩ : ∃ V, valR p.reverse n i s = V := ⟨_, rfl⟩
    rw [hV] at HVL HV
    obtain ⟨v, ok⟩ := V
    dsimp only at HVL HV
    clear hd hr ht hb1 hdl hv hV
    go_enter Tryd.func20, Tryd.ntmps20
    go_wp2_with fail
    refine HDG.out.mono ?_
    rintro e w2 ⟨rfl, rfl⟩
    go_wp2_with fail
    refine HVL.out.mono ?_
    rintro e w2 ⟨rfl, hb2⟩
    have HB2 := Lib.hid (HB1.out.trans (hb2.mono HB1.out.size))
    clear hb2
    cases ok with
    | false =>
      go_wp2_with fail
      go_ret
      exact ⟨by rw [HV.out]; rfl, HB2.out⟩
    | true =>
      go_wp2_with fail
      go_ret
      exact ⟨by rw [HV.out, ← beq_dec]; rfl, HB2.out⟩
set_option maxHeartbeats 2000000 in
theorem verx_out (old root : ByteArray) (n m : Int) (oa : Option Addr) (z cap : Nat) (w : World) (h : m < 0 ∨ n < m) :
    Calls Tryd.prog 21 #[.string old, .int .i64 m, .string root, .int .i64 n, .slice oa z cap] w fun e w' => e = .returned (.bool false) ∧ Below w.heap.size w w' := by
  by_cases h0 : m < 0
  · clear h
    go_enter Tryd.func21, Tryd.ntmps21
    go_wp2_with fail
    go_ret
    exact ⟨rfl, Below.refl _ _⟩
  · have h1 : n < m := by omega
    have h2 : 0 ≤ m := by omega
    clear h
    go_enter Tryd.func21, Tryd.ntmps21
    go_wp2_with fail
    go_ret
    exact ⟨rfl, Below.refl _ _⟩
theorem rdl_two (w : World) (a b : ByteArray) (oa : Option Addr) (cap : Nat) (p : List ByteArray) (hp : p.length ≤ 1000000) (hr : RdS w oa p) :
    RdL ((w.alloc (.cells #[.string a, .string b] 9)).alloc (.cells #[.slice (some ⟨w.heap.size, 0, none⟩) 2 2, .slice oa p.length cap] 22)) (w.heap.size + 1) [(some ⟨w.heap.size, 0, none⟩, 2, [a, b]), (oa, cap, p)] := fun j q hj => by
  have hb : Below w.heap.size w ((w.alloc (.cells #[.string a, .string b] 9)).alloc (.cells #[.slice (some ⟨w.heap.size, 0, none⟩) 2 2, .slice oa p.length cap] 22)) := ((Below.refl _ w).alloc (Nat.le_refl _) _).alloc (by simp) _
  have hn := Blk.new (w.alloc (.cells #[.string a, .string b] 9)) 22 [.slice (some ⟨w.heap.size, 0, none⟩) 2 2, .slice oa p.length cap]
  rw [World.size_alloc] at hn
  have hs := (Blk.new w 9 [.string a, .string b]).alloc (.cells #[.slice (some ⟨w.heap.size, 0, none⟩) 2 2, .slice oa p.length cap] 22)
  match j, hj with
  | 0, hj =>
    obtain rfl : ((some ⟨w.heap.size, 0, none⟩, 2, [a, b]) : Option Addr × Nat × List ByteArray) = q := by simpa using hj
    refine ⟨hn.cell 0, .inr ⟨w.heap.size, 0, rfl, hs.lt, fun j x hj => ?_⟩, by simp⟩
    rw [Nat.zero_add, hs.cell]
    match j, hj with
    | 0, hj => simp at hj; simp [hj]
    | 1, hj => simp at hj; simp [hj]
    | j + 2, hj => simp at hj
  | 1, hj =>
    obtain rfl : (oa, cap, p) = q := by simpa using hj
    exact ⟨hn.cell 1, hr.kept hb, hp⟩
  | j + 2, hj => simp at hj
set_option maxHeartbeats 4000000 in
theorem verx_in (old root : ByteArray) (n m : Nat) (oa : Option Addr) (p : List ByteArray) (cap : Nat) (w : World) (hm : m ≤ n) (hn : n ≤ 9223372036854775807) (hp : p.length ≤ 1000000) (hpc : p.length ≤ cap) (hcc : cap ≤ 9223372036854775807) (hr : RdS w oa p) (ht : TabAt w) :
    Calls Tryd.prog 21 #[.string old, .int .i64 (m : Int), .string root, .int .i64 (n : Int), .slice oa p.length cap] w fun e w' => e = .returned (.bool (verXB old m root n p)) ∧ Below w.heap.size w w' := by
  have hb1 : Below w.heap.size w ((w.alloc (.cells #[.string old, .string root] 9)).alloc (.cells #[.slice (some ⟨w.heap.size, 0, none⟩) 2 2, .slice oa p.length cap] 22)) := ((Below.refl _ w).alloc (Nat.le_refl _) _).alloc (by simp) _
  have HDG := Lib.hid (digests_any (w.heap.size + 1) 2 [(some ⟨w.heap.size, 0, none⟩, 2, [old, root]), (oa, cap, p)] _ (by simp) (rdl_two w old root oa cap p hp hr))
  have hdl : digLs [((some ⟨w.heap.size, 0, none⟩, 2, [old, root]) : Option Addr × Nat × List ByteArray), (oa, cap, p)] = ((old.size == 32) && (root.size == 32) && digB p) := by simp [digLs, digB]
  rw [hdl] at HDG
  have HB1 := Lib.hid hb1
  have i0 : ¬ (m : Int) < 0 := by omega
  have i1 : ¬ (n : Int) < (m : Int) := by omega
  have i2 : (m : Int) ≤ (n : Int) := by omega
  cases hd : ((old.size == 32) && (root.size == 32) && digB p) with
  | false =>
    have HV : Hid (verXB old m root n p = false) := by show _ = _; unfold verXB; rw [decide_eq_true hm, Bool.true_and, hd, Bool.false_and]
    rw [hd] at HDG
    clear hd hr ht hb1 hdl
    go_enter Tryd.func21, Tryd.ntmps21
    go_wp2_with fail
    refine HDG.out.mono ?_
    rintro e w2 ⟨rfl, rfl⟩
    go_wp2_with fail
    go_ret
    exact ⟨by rw [HV.out]; rfl, HB1.out⟩
  | true =>
    rw [hd] at HDG
    have hd2 := hd
    simp only [Bool.and_eq_true, beq_iff_eq] at hd2
    obtain ⟨⟨hd3, hd4⟩, hd5⟩ := hd2
    by_cases hm0 : m = 0
    · obtain rfl := hm0
      have hv : verXB old 0 root n p = (decide (p.length = 0) && decide (old = shaB emptyB)) := by unfold verXB; rw [decide_eq_true hm, Bool.true_and, hd, Bool.true_and, if_pos rfl]
      have HV := Lib.hid hv
      have HRT := Lib.hid (root_any 0 [] none 0 0 _ (Nat.le_refl _) rfl (Nat.le_refl _) (by decide) (by decide) (fun x hx => by simp at hx) (.inl rfl) (ht.below hb1))
      by_cases hp0 : p.length = 0
      · have HP := Lib.hid hp0
        rw [hp0] at HV HDG HRT HB1 ⊢
        clear hd hr ht hb1 hdl hv hd3 hd4 hd5 hp0 hpc hp
        go_enter Tryd.func21, Tryd.ntmps21
        go_wp2_with fail
        refine HDG.out.mono ?_
        rintro e w2 ⟨rfl, rfl⟩
        go_wp2_with fail
        refine HRT.out.mono ?_
        rintro e w2 ⟨rfl, hb2⟩
        have HB2 := Lib.hid (HB1.out.trans (hb2.mono HB1.out.size))
        clear hb2
        go_wp2_with fail
        go_ret
        exact ⟨by rw [HV.out, ← rootL_nil, ← beq_dec]; rfl, HB2.out⟩
      · have p0 : ((p.length : Int) == 0) = false := by rw [beq_eq_false_iff_ne]; omega
        have HVF : Hid (verXB old 0 root n p = false) := by show _ = _; rw [hv, decide_eq_false hp0]; rfl
        clear hd hr ht hb1 hdl hv hd3 hd4 hd5 hp0 HV
        go_enter Tryd.func21, Tryd.ntmps21
        go_wp2_with fail
        refine HDG.out.mono ?_
        rintro e w2 ⟨rfl, rfl⟩
        go_wp2_with fail
        go_ret
        exact ⟨by rw [HVF.out]; rfl, HB1.out⟩
    · have hv : verXB old m root n p = ((valsR p.reverse old m n true).2.2 && decide ((valsR p.reverse old m n true).1 = old) && decide ((valsR p.reverse old m n true).2.1 = root)) := by unfold verXB; rw [decide_eq_true hm, Bool.true_and, hd, Bool.true_and, if_neg hm0]
      have HV := Lib.hid hv
      have m0 : ((m : Int) == 0) = false := by rw [beq_eq_false_iff_ne]; omega
      have HVL := Lib.hid (values_any p.length p oa p.length n m cap old true _ rfl rfl hpc hp hcc hn (by omega) hm (by omega) (digB_sz hd5) (hr.kept hb1) (ht.below hb1))
      obtain ⟨V, hV⟩ : ∃ V, valsR p.reverse old m n true = V := ⟨_, rfl⟩
      rw [hV] at HVL HV
      obtain ⟨v1, v2, ok⟩ := V
      dsimp only at HVL HV
      clear hd hr ht hb1 hdl hv hd3 hd4 hd5 hm0 hV
      go_enter Tryd.func21, Tryd.ntmps21
      go_wp2_with fail
      refine HDG.out.mono ?_
      rintro e w2 ⟨rfl, rfl⟩
      go_wp2_with fail
      refine HVL.out.mono ?_
      rintro e w2 ⟨rfl, hb2⟩
      have HB2 := Lib.hid (HB1.out.trans (hb2.mono HB1.out.size))
      clear hb2
      cases ok with
      | false =>
        go_wp2_with fail
        go_ret
        exact ⟨by rw [HV.out]; rfl, HB2.out⟩
      | true =>
        by_cases he : v1 = old
        · have e1 : (v1.toList == old.toList) = true := by rw [beq_dec, decide_eq_true he]
          have HE := Lib.hid he
          clear he
          go_wp2_with fail
          go_ret
          exact ⟨by rw [HV.out, decide_eq_true HE.out, ← beq_dec]; rfl, HB2.out⟩
        · have e1 : (v1.toList == old.toList) = false := by rw [beq_dec, decide_eq_false he]
          have HE : Hid (¬ v1 = old) := he
          clear he
          go_wp2_with fail
          go_ret
          exact ⟨by rw [HV.out, decide_eq_false HE.out]; rfl, HB2.out⟩
end Go.Proofs.YtggnldljfjhhcaaDoor
