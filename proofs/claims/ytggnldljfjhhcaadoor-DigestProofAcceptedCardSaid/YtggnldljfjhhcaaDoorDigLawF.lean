/-
  The walk of the law DigestProofAccepted.
-/
import Derived.WalkKit
import Derived.LoopTactic
import Derived.WalkSpells
import Derived.WalkLawsBesides
import Derived.IntWalk
import Derived.Outline
import Derived.Deep.QuietTactic
import Derived.BigQuiet
import Derived.Deep.RegionLaw
import Derived.Deep.RegionHeld3
import Derived.Deep.DrawnRows
import Derived.Deep.AppendLies
import Derived.Laws.EntriesVeiled
import Derived.Lib.Hide
import Derived.Laws.OwnMore
import Derived.Test.YtggnldljfjhhcaaDoorDigSha
import Derived.Test.YtggnldljfjhhcaaDoorDigH
import Derived.Test.YtggnldljfjhhcaaDoorDigJ
import Derived.Test.YtggnldljfjhhcaaDoorDigM
import Derived.Test.YtggnldljfjhhcaaDoorDigN
import Derived.Test.YtggnldljfjhhcaaDoorDigO
import Derived.Test.YtggnldljfjhhcaaDoorDigP
import Derived.Test.YtggnldljfjhhcaaDoorDigQ
import Derived.Test.YtggnldljfjhhcaaDoorDigR
import Derived.Test.YtggnldljfjhhcaaDoorDigLawB
import Derived.Test.YtggnldljfjhhcaaDoorDigLawC
import Derived.Test.YtggnldljfjhhcaaDoorDigH
set_option linter.unusedVariables false
set_option linter.unusedSimpArgs false
namespace Go.Proofs.YtggnldljfjhhcaaDoor
open Go.RowKit Onair
attribute [local go_sem ↓] Go.wp_at_zero Go.wp_at_succ
theorem ownS_base {B B' : Nat} {v : Value} {xs : List ByteArray} {W : World} (h : OwnS B v xs W) (hb : B' ≤ B) : OwnS B' v xs W := by
  refine ⟨⟨h.1.1, ?_⟩, Nat.le_trans hb h.2⟩
  rcases h.1.2 with h2 | ⟨g, cap, cur, q1, q2, q3⟩
  · exact .inl h2
  · exact .inr ⟨g, cap, cur, q1, Nat.le_trans hb q2, q3⟩
/-- As app_list, with the frame said of the row itself. -/
theorem app_listF (W : World) (B : Nat) (v : Value) (xs ys : List ByteArray) (oa : Option Addr) (c : Nat) (ho : OwnS B v xs W) (hr : RdS W oa ys) (hxl : xs.length ≤ 1000000) (hyl : ys.length ≤ 1000000) (ty : TypeId) :
    ∃ ob cb w', (Builtin.append_ #[22, 22] ty #[v, .slice oa ys.length c]).run Tryd.prog W = .ok (.slice ob (xs ++ ys).length cb) w' ∧ OwnS B (.slice ob (xs ++ ys).length cb) (xs ++ ys) w' ∧ Fr (fun k => v.ownBlock = some k) W w' := by
  obtain ⟨i0, hi, hz0, hz1, hz2⟩ := info_parts Tryd.infoStr
  cases oa with
  | none =>
    have hy : ys = [] := by
      rcases hr with h | ⟨b, o, e, _⟩
      · exact h
      · cases e
    subst hy
    obtain ⟨ob, cb, rfl⟩ := own_slice ho.1
    rw [List.append_nil]
    exact ⟨ob, cb, W, run_append_none W B _ _ _ ho.1 c ty, ho, Fr.refl _ _⟩
  | some a =>
    have hnews : ∀ j u, (ys.map Value.string)[j]? = some u → W.cell? (a.add j) = some u := fun j u hj => by
      rcases hr with h | ⟨b, o, e, h⟩
      · subst h; simp at hj
      · obtain rfl := Option.some.inj e
        rw [List.getElem?_map] at hj
        obtain ⟨x, hx, rfl⟩ := Option.map_eq_some_iff.1 hj
        rw [show ((⟨b, o, none⟩ : Addr).add j) = ⟨b, o + j, none⟩ from by unfold Addr.add; split <;> simp_all]
        exact h.cell j x hx
    obtain ⟨v', w', hrun, h1, h2, h3⟩ := app_own (P := Tryd.prog) (W := W) B 22 ty 9 i0 (.string ⟨#[]⟩) 1 16 Tryd.underlying22 hi hz0 hz1 hz2 rfl (by decide) v xs.length (xs.map Value.string) ho.1 a ys.length c (ys.map Value.string) (by simp) hnews (by
      intro u hu
      rw [List.mem_map] at hu
      obtain ⟨x, _, rfl⟩ := hu
      rfl) (by unfold maxLen; omega) (by omega) ho.2
    obtain ⟨ob, cb, rfl⟩ := own_slice h1
    exact ⟨ob, cb, w', by rw [List.length_append]; exact hrun, ⟨by rw [List.length_append, List.map_append]; exact h1, Nat.le_trans ho.2 h2.size⟩, h2⟩
theorem rds_fr {S : Nat → Prop} {W W' : World} {d o : Nat} {l : List ByteArray} (h : RdS W (some ⟨d, o, none⟩) l) (hf : Fr S W W') (hs : ¬ S d) : RdS W' (some ⟨d, o, none⟩) l := by
  rcases h with h | ⟨b, o', e, h⟩
  · exact .inl h
  · cases e
    exact .inr ⟨d, o, rfl, Nat.lt_of_lt_of_le h.lt hf.size, fun j x hj => (hf.cell ⟨d, o + j, none⟩ h.lt hs).trans (h.cell j x hj)⟩
theorem step_run_append {P : Program} {ops : Array Oper} {o : Oper} {a : Act} {w : World} {K : Act → World → Prop} {Q : Exit → Act → World → Prop} {E : Prop} (hgd : o.guard = none) (s x : Operand) (t : TypeId)
    (ho : o.op = .call { callee := .builtin .append, args := #[s, x], argTypes := #[t, t] }) (v y v' : Value) (w' : World) (hs : a.eval s = v) (hx : a.eval x = y)
    (hrun : (Builtin.append_ #[t, t] o.type #[v, y]).run P w = .ok v' w') (hK : K (a.put o.dst v') w') : if Region.wanted o (yielded ops a.tmps) = true then Oper.wp P o a w K Q else E := by
  have hw : Region.wanted o (yielded ops a.tmps) = true := by simp [Region.wanted, hgd]
  rw [if_pos hw]
  unfold Oper.wp
  simp [execOp, ho, resolve, invoke, builtin, hs, hx, hrun, Result.andThen]
  exact hK
/-- What the law reads while it makes a longer and a shorter proof. -/
structure PQ (w : World) (B b o j : Nat) (x : ByteArray) (oX : Option Addr) (X : List ByteArray) (W : World) : Prop where
  c : W.cell? ⟨b, o + j, none⟩ = some (.string x)
  lt : b < B
  tab : TabAt W
  gl : 0 < B
  bel : Below w.heap.size w W
  hw : w.heap.size ≤ B
  p : X = [] ∨ ∃ bb oo, oX = some ⟨bb, oo, none⟩ ∧ bb < B ∧ ∀ i y, X[i]? = some y → W.cell? ⟨bb, oo + i, none⟩ = some (.string y)
  hB : B ≤ W.heap.size
theorem PQ.above {w : World} {B b o j : Nat} {x : ByteArray} {oX : Option Addr} {X : List ByteArray} {W W' : World} (h : PQ w B b o j x oX X W) (hb : Below B W W') : PQ w B b o j x oX X W' := by
  refine ⟨(hb.cell (p := ⟨b, o + j, none⟩) h.lt).trans h.c, h.lt, fun i hi => (hb.cell (p := ⟨0, i, none⟩) h.gl).trans (h.tab i hi), h.gl, h.bel.trans (hb.mono h.hw), h.hw, ?_, Nat.le_trans h.hB hb.size⟩
  rcases h.p with e | ⟨bb, oo, e, hlt, hc⟩
  · exact .inl e
  · exact .inr ⟨bb, oo, e, hlt, fun i y hy => (hb.cell (p := ⟨bb, oo + i, none⟩) hlt).trans (hc i y hy)⟩
theorem PQ.next {w : World} {B b o j : Nat} {x : ByteArray} {oX : Option Addr} {X : List ByteArray} {W W' : World} (h : PQ w B b o j x oX X W) (hb : Below W.heap.size W W') : PQ w B b o j x oX X W' := h.above (hb.mono h.hB)
theorem PQ.rds {w : World} {B b o j : Nat} {x : ByteArray} {oX : Option Addr} {X : List ByteArray} {W : World} (h : PQ w B b o j x oX X W) : RdS W oX X := by
  rcases h.p with e | ⟨bb, oo, e, hlt, hc⟩
  · exact .inl e
  · exact .inr ⟨bb, oo, e, Nat.lt_of_lt_of_le hlt h.hB, hc⟩
theorem pq_next {w : World} {B b o j : Nat} {x : ByteArray} {oX : Option Addr} {X : List ByteArray} {W W' : World} (hb : Below W.heap.size W W') (h : W.cell? ⟨b, o + j, none⟩ = some (.string x) ∧ Hid (PQ w B b o j x oX X W)) : W'.cell? ⟨b, o + j, none⟩ = some (.string x) ∧ Hid (PQ w B b o j x oX X W') :=
  ⟨(h.2.out.next hb).c, Lib.hid (h.2.out.next hb)⟩
theorem pq_bel {w : World} {B b o j : Nat} {x : ByteArray} {oX : Option Addr} {X : List ByteArray} {W : World} (h : W.cell? ⟨b, o + j, none⟩ = some (.string x) ∧ Hid (PQ w B b o j x oX X W)) : Below w.heap.size w W := h.2.out.bel
theorem verB_other {R : ByteArray} {n j : Nat} {x : ByteArray} {X Y : List ByteArray} (h : verB R n j x X = true) (hl : X.length ≠ Y.length) : verB R n j x Y = false := by
  cases hv : verB R n j x Y with
  | false => rfl
  | true => exact absurd (verB_len h hv) hl
set_option maxHeartbeats 16000000 in
set_option maxRecDepth 100000 in
theorem walkProofAccepted (w : World) (oa1 : Option Addr) (len1 cap1 : Nat) (ts1 : Nat → ByteArray) (m : Int)
    (h1 : len1 ≤ cap1) (h2 : cap1 ≤ maxLen) (hts1 : ∀ i, (ts1 i).size ≤ maxLen) (hr1 : (len1 = 0 ∨ ∃ b off, oa1 = some ⟨b, off, none⟩ ∧ b < w.heap.size ∧ ∀ i, i < len1 → w.cell? ⟨b, off + i, none⟩ = some (.string (ts1 i)))) (b0 : -9223372036854775808 ≤ m) (b1 : m ≤ 9223372036854775807) (ht : TabAt w) :
    Calls Tryd.prog 4 #[.slice oa1 len1 cap1, .int .i64 m] w fun e w' => e = .returned (.bool true) ∧ Below w.heap.size w w' := by
  unfold maxLen at h2
  have HR1 := Lib.hid hr1
  have HTS1 := Lib.hid hts1
  have HS := Lib.hid (sane_any w ht)
  have HT := Lib.hid ht
  clear hr1 hts1 ht
  go_enter Tryd.func4, Tryd.ntmps4
  go_wp2_with fail
  refine HS.out.mono ?_
  rintro e w1 ⟨rfl, hb1⟩
  have HF1 := Lib.hid (few_any oa1 len1 cap1 40 ts1 w1 (by decide) (by omega) HTS1.out (rd_step hb1 HR1.out))
  have HT1 := Lib.hid (HT.out.below hb1)
  have HB1 := Lib.hid hb1
  clear hb1 HS HR1 HTS1
  go_wp2_with fail
  refine HF1.out.mono ?_
  rintro e w2 ⟨oL, cL, L, rfl, hl, hz, hc, hcm, hrd, hb2⟩
  have HL : Hid (LW w oL L w2) := ⟨hrd, HT1.out.below hb2, HB1.out.trans (hb2.mono HB1.out.size)⟩
  have HZL := Lib.hid (hz.mono (by decide) : SzB 300000000 L)
  have HZ := Lib.hid hz
  obtain ⟨n, hn⟩ : ∃ n, L.length = n := ⟨_, rfl⟩
  rw [hn] at hl hc
  rw [hn]
  have HN := Lib.hid hn
  obtain ⟨R, hR⟩ : ∃ R, rootL L = R := ⟨_, rfl⟩
  have HRR := Lib.hid hR
  have hR32 : R.size ≤ 32 := by rw [← hR]; exact Nat.le_of_eq (rootL_size L)
  clear hz hrd hb2 HF1 HT1 HB1 hn hR
  go_wp2_with fail
  refine (root_any n L oL n cL w2 (by rw [HN.out]; exact Nat.le_refl _) HN.out hc hcm (by omega) HZL.out HL.out.rd HL.out.tab).mono ?_
  rw [HRR.out]
  rintro e w3 ⟨rfl, hb3⟩
  have HL3 := Lib.hid (HL.out.next hb3)
  clear hb3 HL
  go_wp2_with fail
  go_loopw [7] (fun i wr => ∃ k : Nat, k ≤ n ∧ i = .int .i64 k ∧ Hid (LW w oL L wr)) (fun i _ => n - (intOf i).toNat)
  case atStart => exact ⟨0, Nat.zero_le _, rfl, HL3⟩
  case round =>
    clear HL3
    obtain ⟨k, hk, rfl, HLr⟩ := hrel
    by_cases hkn : k < n
    · have q1 : (k : Int) < (n : Int) := by omega
      obtain ⟨b, o, rfl, hrb⟩ := HLr.out.rd.some (by rw [HN.out]; omega)
      obtain ⟨x, hx⟩ : ∃ x, L[k]? = some x := ⟨_, List.getElem?_eq_getElem (by rw [HN.out]; exact hkn)⟩
      have hxz := HZ.out x (List.mem_of_getElem? hx)
      have HPR := Lib.hid (proof_in L b o n cL k wr HN.out hc hcm (by omega) hkn HZL.out hrb HLr.out.tab)
      have hver := proof_ver L k (by rw [HN.out]; exact hkn)
      rw [List.getD_eq_getElem?_getD, hx, HN.out, HRR.out] at hver
      have hsh := proofL_short L k
      rw [HN.out] at hsh
      have hpl := proofL_len L k
      rw [HN.out] at hpl
      obtain ⟨X, hX⟩ : ∃ X, proofL L k = X := ⟨_, rfl⟩
      rw [hX] at HPR hver hsh hpl
      obtain ⟨xl, hxl⟩ : ∃ xl, X.length = xl := ⟨_, rfl⟩
      obtain ⟨bn, hbn⟩ : ∃ bn, binN n = bn := ⟨_, rfl⟩
      rw [hxl] at HPR hsh hpl
      rw [hbn] at hsh
      have hbl : bn ≤ n := by rw [← hbn]; exact binN_le n
      have HV := Lib.hid hver
      have HXL := Lib.hid hxl
      have HBN := Lib.hid hbn
      have HX := Lib.hid hx
      have qx : ¬ (bn : Int) < (xl : Int) := by omega
      clear hrb hx hver hX hxl hbn
      go_wp2_with fail
      refine HPR.out.mono ?_
      rintro e w4 ⟨oX, cX, rfl, hx1, hx2, hx3, hb4⟩
      have HL4 := Lib.hid (HLr.out.next hb4)
      have HX4 := Lib.hid hx3
      clear hb4 hx3 HLr HPR
      go_wp2_with fail
      refine (binary_any n w4 (by omega)).mono ?_
      rw [HBN.out]
      rintro e w5 ⟨rfl, rfl⟩
      obtain ⟨b', o', he, hrb⟩ := HL4.out.rd.some (by rw [HN.out]; omega)
      cases he
      have cx := hrb.cell k x HX.out
      have HVF := Lib.hid (verify_in R n k x oX X cX w4 hkn (by omega) (by omega) (by rw [HXL.out]; omega) (by rw [HXL.out]; exact hx1) hx2 HX4.out HL4.out.tab)
      rw [HXL.out] at HVF
      have hv := HV.out
      simp only [Option.getD_some] at hv
      rw [hv] at HVF
      clear hrb hv
      go_wp2_with fail
      refine HVF.out.mono ?_
      rintro e w6 ⟨rfl, hb6⟩
      have HL6 := Lib.hid (HL4.out.next hb6)
      clear hb6 HL4 HX4 HVF cx
      go_wp2_with fail
      go_roundw
      case rel => exact ⟨k + 1, by omega, by go_num, HL6⟩
      case measure => simp [intOf]; omega
    · have q1 : ¬ (k : Int) < (n : Int) := by omega
      by_cases hm : 0 ≤ m ∧ m < n
      · obtain ⟨m0, m1⟩ := hm
        obtain ⟨j, rfl⟩ : ∃ j : Nat, m = (j : Int) := ⟨m.toNat, by omega⟩
        have hj : j < n := by omega
        obtain ⟨b, o, rfl, hrb⟩ := HLr.out.rd.some (by rw [HN.out]; omega)
        obtain ⟨x, hx⟩ : ∃ x, L[j]? = some x := ⟨_, List.getElem?_eq_getElem (by rw [HN.out]; exact hj)⟩
        have hxz0 := HZ.out x (List.mem_of_getElem? hx)
        have hxz : x.size ≤ 900000000 := by omega
        have HPR := Lib.hid (proof_in L b o n cL j wr HN.out hc hcm (by omega) hj HZL.out hrb HLr.out.tab)
        have hver := proof_ver L j (by rw [HN.out]; exact hj)
        rw [List.getD_eq_getElem?_getD, hx, HN.out, HRR.out] at hver
        simp only [Option.getD_some] at hver
        have hpl := proofL_len L j
        rw [HN.out] at hpl
        obtain ⟨X, hX⟩ : ∃ X, proofL L j = X := ⟨_, rfl⟩
        rw [hX] at HPR hver hpl
        obtain ⟨XR, hXR⟩ : ∃ XR, X ++ [R] = XR := ⟨_, rfl⟩
        have hvf : verB R n j x XR = false := by rw [← hXR]; exact verB_other hver (by simp)
        have hvs : 0 < X.length → verB R n j x (X.drop 1) = false := fun h0 => verB_other hver (by rw [List.length_drop]; omega)
        have hxrl : XR.length = X.length + 1 := by rw [← hXR]; simp
        obtain ⟨xl, hxl⟩ : ∃ xl, X.length = xl := ⟨_, rfl⟩
        rw [hxl] at HPR hpl hvs hxrl
        have HVF := Lib.hid hvf
        have HVS := Lib.hid hvs
        have HXL := Lib.hid hxl
        have HXR := Lib.hid hXR
        have HXRL : Hid (XR.length ≤ 100) := by show _ ≤ _; omega
        have HX := Lib.hid hx
        clear hrb hx hver hX hxl hvf hvs hXR hxrl hkn hxz0
        go_wp2_with fail
        refine HPR.out.mono ?_
        rintro e w4 ⟨oX, cX, rfl, hx1, hx2, hx3, hb4⟩
        have HL4 := Lib.hid (HLr.out.next hb4)
        have hq0 : PQ w w4.drew.heap.size b o j x oX X w4.drew := by
          obtain ⟨b', o', he, hrb⟩ := HL4.out.rd.some (by rw [HN.out]; omega)
          cases he
          refine ⟨hrb.cell j x HX.out, hrb.lt, HL4.out.tab, HL4.out.tab.lt, HL4.out.bel.drew, HL4.out.bel.size, ?_, Nat.le_refl _⟩
          rcases hx3 with e | ⟨bb, oo, e, h⟩
          · exact .inl e
          · exact .inr ⟨bb, oo, e, h.lt, h.cell⟩
        have hcase : xl = 0 ∨ (1 ≤ xl ∧ cX = 1) ∨ (1 ≤ xl ∧ ¬ cX = 1) := by omega
        have cxx := hq0.c
        obtain ⟨B, hB⟩ : ∃ B, w4.drew.heap.size = B := ⟨_, rfl⟩
        rw [hB] at hq0
        have HQ := Lib.hid hq0
        clear hb4 hx3 HLr HPR hq0 HL4 hB
        go_wp2_with fail
        refine wp_region_held_drew (S := fun w' => w'.cell? ⟨b, o + j, none⟩ = some (.string x)) (by kernel_rfl) ?_ (fun hHeld => ?_)
        · exact HQ.out.c
        generalize w4.drew = z0 at HQ hHeld ⊢
        refine wpAnyH_take (i := 0) (oi := ⟨some 97, _, _, _, _, _⟩) (v := ?va0) rfl (by kernel_rfl) (by kernel_rfl) (by kernel_rfl) (fun _ _ _ h => h) (Or.inl ⟨by rfl, ?ya0⟩) (by assumption) ?ra0
        case ya0 => (intro w hSw; (try dsimp only at hSw); go_simp; (try (with_reducible rfl)))
        try simp only [Act.put, List.setIfInBounds_toArray, List.set_cons_zero, List.set_cons_succ]
        refine wpAnyH_take (i := 1) (oi := ⟨some 98, _, _, _, _, _⟩) (v := ?va1) rfl (by kernel_rfl) (by kernel_rfl) (by kernel_rfl) (fun _ _ _ h => h) (Or.inl ⟨by rfl, ?ya1⟩) (by assumption) ?ra1
        case ya1 => (intro w hSw; (try dsimp only at hSw); go_simp; (try (with_reducible rfl)))
        try simp only [Act.put, List.setIfInBounds_toArray, List.set_cons_zero, List.set_cons_succ]
        refine wpAnyH_take (i := 2) (oi := ⟨some 99, _, _, _, _, _⟩) (v := ?va2) rfl (by kernel_rfl) (by kernel_rfl) (by kernel_rfl) (fun _ _ _ h => h) (Or.inl ⟨by rfl, ?ya2⟩) (by assumption) ?ra2
        case ya2 => (intro w hSw; (try dsimp only at hSw); go_simp; (try (with_reducible rfl)))
        try simp only [Act.put, List.setIfInBounds_toArray, List.set_cons_zero, List.set_cons_succ]
        refine wpAnyH_take (i := 3) (oi := ⟨some 100, _, _, _, _, _⟩) (v := ?va3) rfl (by kernel_rfl) (by kernel_rfl) (by kernel_rfl) (fun _ _ _ h => h) (Or.inl ⟨by rfl, ?ya3⟩) (by assumption) ?ra3
        case ya3 => (intro w hSw; (try dsimp only at hSw); go_simp; (try (with_reducible rfl)))
        try simp only [Act.put, List.setIfInBounds_toArray, List.set_cons_zero, List.set_cons_succ]
        refine wpAnyH_take (i := 4) (oi := ⟨some 101, _, _, _, _, _⟩) (v := ?va4) rfl (by kernel_rfl) (by kernel_rfl) (by kernel_rfl) (fun _ _ _ h => h) (Or.inl ⟨by rfl, ?ya4⟩) (by assumption) ?ra4
        case ya4 => (intro w hSw; (try dsimp only at hSw); go_simp; (try (with_reducible rfl)))
        try simp only [Act.put, List.setIfInBounds_toArray, List.set_cons_zero, List.set_cons_succ]
        refine wpAnyH_take (i := 5) (oi := ⟨some 102, _, _, _, _, _⟩) (v := ?va5) rfl (by kernel_rfl) (by kernel_rfl) (by kernel_rfl) (fun _ _ _ h => h) (Or.inl ⟨by rfl, ?ya5⟩) (by assumption) ?ra5
        case ya5 => (intro w hSw; (try dsimp only at hSw); go_simp; (try (with_reducible rfl)))
        try simp only [Act.put, List.setIfInBounds_toArray, List.set_cons_zero, List.set_cons_succ]
        refine wpAnyH_take (i := 6) (oi := ⟨some 103, _, _, _, _, _⟩) (v := ?va6) rfl (by kernel_rfl) (by kernel_rfl) (by kernel_rfl) (fun _ _ _ h => h) (Or.inl ⟨by rfl, ?ya6⟩) (by assumption) ?ra6
        case ya6 => (intro w hSw; (try dsimp only at hSw); go_simp; (try (with_reducible rfl)))
        try simp only [Act.put, List.setIfInBounds_toArray, List.set_cons_zero, List.set_cons_succ]
        refine wpAnyH_take (i := 7) (oi := ⟨some 104, _, _, _, _, _⟩) (v := ?va7) rfl (by kernel_rfl) (by kernel_rfl) (by kernel_rfl) (fun _ _ _ h => h) (Or.inl ⟨by rfl, ?ya7⟩) (by assumption) ?ra7
        case ya7 => (intro w hSw; (try dsimp only at hSw); go_simp; (try (with_reducible rfl)))
        try simp only [Act.put, List.setIfInBounds_toArray, List.set_cons_zero, List.set_cons_succ]
        refine wpAnyH_take (i := 9) (oi := ⟨some 106, _, _, _, _, _⟩) (v := ?va9) rfl (by kernel_rfl) (by kernel_rfl) (by kernel_rfl) (fun _ _ _ h => h) (Or.inl ⟨by rfl, ?ya9⟩) (by assumption) ?ra9
        case ya9 => (intro w hSw; (try dsimp only at hSw); go_simp; (try (with_reducible rfl)))
        try simp only [Act.put, List.setIfInBounds_toArray, List.set_cons_zero, List.set_cons_succ]
        refine wpAnyH_take (i := 11) (oi := ⟨some 108, _, _, _, _, _⟩) (v := ?va11) rfl (by kernel_rfl) (by kernel_rfl) (by kernel_rfl) (fun _ _ _ h => h) (Or.inl ⟨by rfl, ?ya11⟩) (by assumption) ?ra11
        case ya11 => (intro w hSw; (try dsimp only at hSw); go_simp; (try (with_reducible rfl)))
        try simp only [Act.put, List.setIfInBounds_toArray, List.set_cons_zero, List.set_cons_succ]
        refine wpAnyH_ready (rs := [8, 12]) (by kernel_rfl) (by simp) (AllReadyH.cons (o := ⟨some 105, _, _, _, _, _⟩) rfl (fun K hK => ?_) (AllReadyH.cons (o := ⟨some 109, _, _, _, _, _⟩) rfl (fun K hK => ?_) AllReadyH.nil))
        · skip
          go_simp
          have HO : Hid (OwnS B (.slice (some ⟨z0.heap.size, 0, none⟩) 0 0) [] (z0.alloc (.cells #[] 9))) := ownS_base (own_new z0 [] (by simp)) HQ.out.hB
          have hD0b : B ≤ z0.heap.size := HQ.out.hB
          have HQ := Lib.hid (HQ.out.next ((Below.refl _ z0).alloc (Nat.le_refl _) (.cells #[] 9)))
          have hD0l : z0.heap.size < (z0.alloc (.cells #[] 9)).heap.size := by simp
          generalize z0.alloc (.cells #[] 9) = z1 at HO HQ hD0l  ⊢
          generalize z0.heap.size = D0 at HO hD0b hD0l  ⊢
          refine hK.out _ _ ?_ (fun hHeld2 => ?_)
          · exact HQ.out.c
          clear hK K hHeld
          rename _ => hHeld
          try simp only [Act.put, List.setIfInBounds_toArray, List.set_cons_zero, List.set_cons_succ]
          refine wpAnyH_ready (rs := [10, 12]) (by kernel_rfl) (by simp) (AllReadyH.cons (o := ⟨some 107, _, _, _, _, _⟩) rfl (fun K hK => ?_) (AllReadyH.cons (o := ⟨some 109, _, _, _, _, _⟩) rfl (fun K hK => ?_) AllReadyH.nil))
          · skip
            obtain ⟨oc, cc, z2, hrun, hown, hfr⟩ := app_listF z1 B (.slice (some ⟨D0, 0, none⟩) 0 0) [] X oX cX HO.out HQ.out.rds (by simp) (by have := HXL.out; omega) 22
            rw [List.nil_append] at hrun hown
            rw [HXL.out] at hrun
            refine step_run_append (by rfl) _ _ 22 (by rfl) _ _ _ _ (by rfl) (by rfl) hrun ?_
            have HO := Lib.hid hown
            have HQ := Lib.hid (HQ.out.above (hfr.below B HQ.out.hB (fun k hk => by have hk2 : D0 = k := (by simpa [Value.ownBlock] using hk); omega)))
            have hzz : z1.heap.size ≤ z2.heap.size := hfr.size
            clear hrun hown hfr
            refine hK.out _ _ ?_ (fun hHeld2 => ?_)
            · exact HQ.out.c
            clear hK K hHeld
            rename _ => hHeld
            try simp only [Act.put, List.setIfInBounds_toArray, List.set_cons_zero, List.set_cons_succ]
            refine wpAnyH_ready (rs := [12]) (by kernel_rfl) (by simp) (AllReadyH.cons (o := ⟨some 109, _, _, _, _, _⟩) rfl (fun K hK => ?_) AllReadyH.nil)
            go_simp
            have HS : Hid (RdS (z2.alloc (.cells #[.string R] 9)) (some ⟨z2.heap.size, 0, none⟩) [R]) := .inr ⟨_, _, rfl, by simp, fun j x hj => cells_new z2 [R] 9 j x hj⟩
            have HQ := Lib.hid (HQ.out.next ((Below.refl _ z2).alloc (Nat.le_refl _) (.cells #[.string R] 9)))
            have HO := Lib.hid (HO.out.kept ((Below.refl _ z2).alloc (Nat.le_refl _) (.cells #[.string R] 9)))
            have hD1l : z2.heap.size < (z2.alloc (.cells #[.string R] 9)).heap.size := by simp
            have hDD : ¬ D0 = z2.heap.size := by omega
            generalize z2.alloc (.cells #[.string R] 9) = z3 at HS HQ hD1l HO ⊢
            generalize z2.heap.size = D1 at HS hD1l hDD ⊢
            refine hK.out _ _ ?_ (fun hHeld2 => ?_)
            · exact HQ.out.c
            clear hK K hHeld
            rename _ => hHeld
            try simp only [Act.put, List.setIfInBounds_toArray, List.set_cons_zero, List.set_cons_succ]
            refine wpAnyH_ready (rs := [13]) (by kernel_rfl) (by simp) (AllReadyH.cons (o := ⟨some 110, _, _, _, _, _⟩) rfl (fun K hK => ?_) AllReadyH.nil)
            obtain ⟨oc2, cc2, zE, hrun, hown, hfr⟩ := app_list z3 B (.slice oc X.length cc) X [R] (some ⟨D1, 0, none⟩) 1 HO.out HS.out (fun _ _ => trivial) (by have := HXL.out; omega) (by simp) 22
            rw [HXL.out, HXR.out] at hrun
            rw [HXR.out] at hown
            refine step_run_append (by rfl) _ _ 22 (by rfl) _ _ _ _ (by rfl) (by rfl) hrun ?_
            have HQ := Lib.hid (HQ.out.above (hfr.below B HQ.out.hB (fun k hk => hk)))
            have hm := own_rds hown.1
            have HM := Lib.hid hm.2.2.2
            have hmc := hm.2.1
            have hmm := hm.2.2.1
            clear hrun hown hfr hm
            refine hK.out _ _ ?_ (fun hHeld2 => ?_)
            · exact HQ.out.c
            clear hK K hHeld
            rename _ => hHeld
            try simp only [Act.put, List.setIfInBounds_toArray, List.set_cons_zero, List.set_cons_succ]
            refine wpAnyH_ready (rs := [14]) (by kernel_rfl) (by simp) (AllReadyH.cons (o := ⟨some 111, _, _, _, _, _⟩) rfl (fun K hK => ?_) AllReadyH.nil)
            go_simp
            have hvf := verify_in R n j x oc2 XR cc2 zE hj (by omega) hxz (by have := HXRL.out; omega) hmc hmm HM.out HQ.out.tab
            rw [HVF.out] at hvf
            refine hvf.mono ?_
            rintro e zF ⟨rfl, hz⟩
            have HQ := Lib.hid (HQ.out.next hz)
            clear hvf hz hmc hmm
            go_simp
            refine hK.out _ _ ?_ (fun hHeld2 => ?_)
            · exact HQ.out.c
            clear hK K hHeld
            rename _ => hHeld
            try simp only [Act.put, List.setIfInBounds_toArray, List.set_cons_zero, List.set_cons_succ]
            refine wpAnyH_take (i := 15) (oi := ⟨some 13, _, _, _, _, _⟩) (v := ?vb15) rfl (by kernel_rfl) (by kernel_rfl) (by kernel_rfl) (fun _ _ _ h => h) (Or.inl ⟨by rfl, ?yb15⟩) (by assumption) ?rb15
            case yb15 => (intro w hSw; (try dsimp only at hSw); go_simp; (try (with_reducible rfl)))
            try simp only [Act.put, List.setIfInBounds_toArray, List.set_cons_zero, List.set_cons_succ]
            refine wpAnyH_done (by kernel_rfl) ?_ _
            clear hHeld HO HS HM
            have c5 := HQ.out.c
            have l5 := HQ.out.lt
            go_wp2_with fail
            rcases hcase with hx0 | ⟨hx1, hc1⟩ | ⟨hx1, hc1⟩
            · have q9 : ¬ (0 : Int) < (xl : Int) := by omega
              go_quiet (fail)
              go_wp2_with fail
              go_ret
              exact ⟨rfl, HQ.out.bel.trans ⟨rfl, rfl, rfl, Nat.le_refl _, fun _ _ => rfl⟩⟩
            · obtain rfl := hc1
              obtain rfl : xl = 1 := by omega
              obtain ⟨bX, oX', rfl, hbX⟩ := HQ.out.rds.some (by rw [HXL.out]; decide)
              have IV : Hid (∀ W, Hid (PQ w B b o j x (some ⟨bX, oX', none⟩) X W) → Calls Tryd.prog 20 #[.string R, .int .i64 (n : Int), .int .i64 (j : Int), .string x, .slice (some ⟨bX, oX', none⟩) 0 0] W fun e w' => e = .returned (.bool false) ∧ Below W.heap.size W w') := fun W hW => by
                have h0 : X.drop 1 = [] := List.drop_of_length_le (by rw [HXL.out]; exact Nat.le_refl _)
                have := verify_in R n j x (some ⟨bX, oX', none⟩) [] 0 W hj (by omega) hxz (by simp) (by simp) (by omega) (.inl rfl) hW.out.tab
                have hv := HVS.out (by decide)
                rw [h0] at hv
                rw [hv] at this
                exact this
              clear hbX
              go_region_held3 (fun W => W.cell? ⟨b, o + j, none⟩ = some (.string x) ∧ Hid (PQ w B b o j x (some ⟨bX, oX', none⟩) X W)) (first | exact ⟨c5, Lib.hid (HQ.out.next (Below.refl _ _).drew)⟩ | exact pq_next (by assumption) (by assumption))
                (first | ((with_reducible refine (IV.out _ (And.right (by assumption))).mono ?_); rintro e w' ⟨rfl, hb⟩))
              go_wp2_with fail
              go_ret
              exact ⟨rfl, pq_bel (by assumption)⟩
            · have q9 : (0 : Int) < (xl : Int) := by omega
              have q10 : (1 : Int) ≤ (xl : Int) := by omega
              have q11 : (xl : Int) ≤ (cX : Int) := by omega
              have q12 : (1 : Int) ≤ (cX : Int) := by omega
              have q13 : (1 : Int) < (cX : Int) := by omega
              have q14 : ¬ 1 = cX := by omega
              have q15 : ¬ cX = 1 := by omega
              have q16 : 0 < xl := by omega
              have q17 : decide ((0 : Int) < (xl : Int)) = true := decide_eq_true q9
              have q18 : decide (0 < xl) = true := decide_eq_true q16
              have q19 : 1 ≤ xl := by omega
              obtain ⟨bX, oX', rfl, hbX⟩ := HQ.out.rds.some (by rw [HXL.out]; omega)
              have IV : Hid (∀ W, Hid (PQ w B b o j x (some ⟨bX, oX', none⟩) X W) → Calls Tryd.prog 20 #[.string R, .int .i64 (n : Int), .int .i64 (j : Int), .string x, .slice (some ⟨bX, oX' + 1, none⟩) (xl - 1) (cX - 1)] W fun e w' => e = .returned (.bool false) ∧ Below W.heap.size W w') := fun W hW => by
                obtain ⟨b', o', he, hr⟩ := hW.out.rds.some (by rw [HXL.out]; omega)
                cases he
                have hdl : (X.drop 1).length = xl - 1 := by rw [List.length_drop, HXL.out]
                have := verify_in R n j x (some ⟨bX, oX' + 1, none⟩) (X.drop 1) (cX - 1) W hj (by omega) hxz (by rw [hdl]; omega) (by rw [hdl]; omega) (by omega) (hr.drop 1).rds hW.out.tab
                rw [HVS.out (by omega), hdl] at this
                exact this
              clear hbX hc1
              go_region_held3 (fun W => W.cell? ⟨b, o + j, none⟩ = some (.string x) ∧ Hid (PQ w B b o j x (some ⟨bX, oX', none⟩) X W)) (first | exact ⟨c5, Lib.hid (HQ.out.next (Below.refl _ _).drew)⟩ | exact pq_next (by assumption) (by assumption))
                (first | ((with_reducible refine (IV.out _ (And.right (by assumption))).mono ?_); rintro e w' ⟨rfl, hb⟩))
              go_wp2_with fail
              go_ret
              exact ⟨rfl, pq_bel (by assumption)⟩
          · skip
            go_simp
            have HS : Hid (RdS (z1.alloc (.cells #[.string R] 9)) (some ⟨z1.heap.size, 0, none⟩) [R]) := .inr ⟨_, _, rfl, by simp, fun j x hj => cells_new z1 [R] 9 j x hj⟩
            have HQ := Lib.hid (HQ.out.next ((Below.refl _ z1).alloc (Nat.le_refl _) (.cells #[.string R] 9)))
            have HO := Lib.hid (HO.out.kept ((Below.refl _ z1).alloc (Nat.le_refl _) (.cells #[.string R] 9)))
            have hD1l : z1.heap.size < (z1.alloc (.cells #[.string R] 9)).heap.size := by simp
            have hDD : ¬ D0 = z1.heap.size := by omega
            generalize z1.alloc (.cells #[.string R] 9) = z2 at HS HQ hD1l HO ⊢
            generalize z1.heap.size = D1 at HS hD1l hDD ⊢
            refine hK.out _ _ ?_ (fun hHeld2 => ?_)
            · exact HQ.out.c
            clear hK K hHeld
            rename _ => hHeld
            try simp only [Act.put, List.setIfInBounds_toArray, List.set_cons_zero, List.set_cons_succ]
            refine wpAnyH_ready (rs := [10]) (by kernel_rfl) (by simp) (AllReadyH.cons (o := ⟨some 107, _, _, _, _, _⟩) rfl (fun K hK => ?_) AllReadyH.nil)
            obtain ⟨oc, cc, z3, hrun, hown, hfr⟩ := app_listF z2 B (.slice (some ⟨D0, 0, none⟩) 0 0) [] X oX cX HO.out HQ.out.rds (by simp) (by have := HXL.out; omega) 22
            rw [List.nil_append] at hrun hown
            rw [HXL.out] at hrun
            refine step_run_append (by rfl) _ _ 22 (by rfl) _ _ _ _ (by rfl) (by rfl) hrun ?_
            have HO := Lib.hid hown
            have HQ := Lib.hid (HQ.out.above (hfr.below B HQ.out.hB (fun k hk => by have hk2 : D0 = k := (by simpa [Value.ownBlock] using hk); omega)))
            have HS := Lib.hid (rds_fr HS.out hfr (fun hk => hDD (by simpa [Value.ownBlock] using hk)))
            have hzz : z2.heap.size ≤ z3.heap.size := hfr.size
            clear hrun hown hfr
            refine hK.out _ _ ?_ (fun hHeld2 => ?_)
            · exact HQ.out.c
            clear hK K hHeld
            rename _ => hHeld
            try simp only [Act.put, List.setIfInBounds_toArray, List.set_cons_zero, List.set_cons_succ]
            refine wpAnyH_ready (rs := [13]) (by kernel_rfl) (by simp) (AllReadyH.cons (o := ⟨some 110, _, _, _, _, _⟩) rfl (fun K hK => ?_) AllReadyH.nil)
            obtain ⟨oc2, cc2, zE, hrun, hown, hfr⟩ := app_list z3 B (.slice oc X.length cc) X [R] (some ⟨D1, 0, none⟩) 1 HO.out HS.out (fun _ _ => trivial) (by have := HXL.out; omega) (by simp) 22
            rw [HXL.out, HXR.out] at hrun
            rw [HXR.out] at hown
            refine step_run_append (by rfl) _ _ 22 (by rfl) _ _ _ _ (by rfl) (by rfl) hrun ?_
            have HQ := Lib.hid (HQ.out.above (hfr.below B HQ.out.hB (fun k hk => hk)))
            have hm := own_rds hown.1
            have HM := Lib.hid hm.2.2.2
            have hmc := hm.2.1
            have hmm := hm.2.2.1
            clear hrun hown hfr hm
            refine hK.out _ _ ?_ (fun hHeld2 => ?_)
            · exact HQ.out.c
            clear hK K hHeld
            rename _ => hHeld
            try simp only [Act.put, List.setIfInBounds_toArray, List.set_cons_zero, List.set_cons_succ]
            refine wpAnyH_ready (rs := [14]) (by kernel_rfl) (by simp) (AllReadyH.cons (o := ⟨some 111, _, _, _, _, _⟩) rfl (fun K hK => ?_) AllReadyH.nil)
            go_simp
            have hvf := verify_in R n j x oc2 XR cc2 zE hj (by omega) hxz (by have := HXRL.out; omega) hmc hmm HM.out HQ.out.tab
            rw [HVF.out] at hvf
            refine hvf.mono ?_
            rintro e zF ⟨rfl, hz⟩
            have HQ := Lib.hid (HQ.out.next hz)
            clear hvf hz hmc hmm
            go_simp
            refine hK.out _ _ ?_ (fun hHeld2 => ?_)
            · exact HQ.out.c
            clear hK K hHeld
            rename _ => hHeld
            try simp only [Act.put, List.setIfInBounds_toArray, List.set_cons_zero, List.set_cons_succ]
            refine wpAnyH_take (i := 15) (oi := ⟨some 13, _, _, _, _, _⟩) (v := ?vc15) rfl (by kernel_rfl) (by kernel_rfl) (by kernel_rfl) (fun _ _ _ h => h) (Or.inl ⟨by rfl, ?yc15⟩) (by assumption) ?rc15
            case yc15 => (intro w hSw; (try dsimp only at hSw); go_simp; (try (with_reducible rfl)))
            try simp only [Act.put, List.setIfInBounds_toArray, List.set_cons_zero, List.set_cons_succ]
            refine wpAnyH_done (by kernel_rfl) ?_ _
            clear hHeld HO HS HM
            have c5 := HQ.out.c
            have l5 := HQ.out.lt
            go_wp2_with fail
            rcases hcase with hx0 | ⟨hx1, hc1⟩ | ⟨hx1, hc1⟩
            · have q9 : ¬ (0 : Int) < (xl : Int) := by omega
              go_quiet (fail)
              go_wp2_with fail
              go_ret
              exact ⟨rfl, HQ.out.bel.trans ⟨rfl, rfl, rfl, Nat.le_refl _, fun _ _ => rfl⟩⟩
            · obtain rfl := hc1
              obtain rfl : xl = 1 := by omega
              obtain ⟨bX, oX', rfl, hbX⟩ := HQ.out.rds.some (by rw [HXL.out]; decide)
              have IV : Hid (∀ W, Hid (PQ w B b o j x (some ⟨bX, oX', none⟩) X W) → Calls Tryd.prog 20 #[.string R, .int .i64 (n : Int), .int .i64 (j : Int), .string x, .slice (some ⟨bX, oX', none⟩) 0 0] W fun e w' => e = .returned (.bool false) ∧ Below W.heap.size W w') := fun W hW => by
                have h0 : X.drop 1 = [] := List.drop_of_length_le (by rw [HXL.out]; exact Nat.le_refl _)
                have := verify_in R n j x (some ⟨bX, oX', none⟩) [] 0 W hj (by omega) hxz (by simp) (by simp) (by omega) (.inl rfl) hW.out.tab
                have hv := HVS.out (by decide)
                rw [h0] at hv
                rw [hv] at this
                exact this
              clear hbX
              go_region_held3 (fun W => W.cell? ⟨b, o + j, none⟩ = some (.string x) ∧ Hid (PQ w B b o j x (some ⟨bX, oX', none⟩) X W)) (first | exact ⟨c5, Lib.hid (HQ.out.next (Below.refl _ _).drew)⟩ | exact pq_next (by assumption) (by assumption))
                (first | ((with_reducible refine (IV.out _ (And.right (by assumption))).mono ?_); rintro e w' ⟨rfl, hb⟩))
              go_wp2_with fail
              go_ret
              exact ⟨rfl, pq_bel (by assumption)⟩
            · have q9 : (0 : Int) < (xl : Int) := by omega
              have q10 : (1 : Int) ≤ (xl : Int) := by omega
              have q11 : (xl : Int) ≤ (cX : Int) := by omega
              have q12 : (1 : Int) ≤ (cX : Int) := by omega
              have q13 : (1 : Int) < (cX : Int) := by omega
              have q14 : ¬ 1 = cX := by omega
              have q15 : ¬ cX = 1 := by omega
              have q16 : 0 < xl := by omega
              have q17 : decide ((0 : Int) < (xl : Int)) = true := decide_eq_true q9
              have q18 : decide (0 < xl) = true := decide_eq_true q16
              have q19 : 1 ≤ xl := by omega
              obtain ⟨bX, oX', rfl, hbX⟩ := HQ.out.rds.some (by rw [HXL.out]; omega)
              have IV : Hid (∀ W, Hid (PQ w B b o j x (some ⟨bX, oX', none⟩) X W) → Calls Tryd.prog 20 #[.string R, .int .i64 (n : Int), .int .i64 (j : Int), .string x, .slice (some ⟨bX, oX' + 1, none⟩) (xl - 1) (cX - 1)] W fun e w' => e = .returned (.bool false) ∧ Below W.heap.size W w') := fun W hW => by
                obtain ⟨b', o', he, hr⟩ := hW.out.rds.some (by rw [HXL.out]; omega)
                cases he
                have hdl : (X.drop 1).length = xl - 1 := by rw [List.length_drop, HXL.out]
                have := verify_in R n j x (some ⟨bX, oX' + 1, none⟩) (X.drop 1) (cX - 1) W hj (by omega) hxz (by rw [hdl]; omega) (by rw [hdl]; omega) (by omega) (hr.drop 1).rds hW.out.tab
                rw [HVS.out (by omega), hdl] at this
                exact this
              clear hbX hc1
              go_region_held3 (fun W => W.cell? ⟨b, o + j, none⟩ = some (.string x) ∧ Hid (PQ w B b o j x (some ⟨bX, oX', none⟩) X W)) (first | exact ⟨c5, Lib.hid (HQ.out.next (Below.refl _ _).drew)⟩ | exact pq_next (by assumption) (by assumption))
                (first | ((with_reducible refine (IV.out _ (And.right (by assumption))).mono ?_); rintro e w' ⟨rfl, hb⟩))
              go_wp2_with fail
              go_ret
              exact ⟨rfl, pq_bel (by assumption)⟩
        · skip
          go_simp
          have HS : Hid (RdS (z0.alloc (.cells #[.string R] 9)) (some ⟨z0.heap.size, 0, none⟩) [R]) := .inr ⟨_, _, rfl, by simp, fun j x hj => cells_new z0 [R] 9 j x hj⟩
          have HQ := Lib.hid (HQ.out.next ((Below.refl _ z0).alloc (Nat.le_refl _) (.cells #[.string R] 9)))
          have hD1l : z0.heap.size < (z0.alloc (.cells #[.string R] 9)).heap.size := by simp
          generalize z0.alloc (.cells #[.string R] 9) = z1 at HS HQ hD1l  ⊢
          generalize z0.heap.size = D1 at HS hD1l  ⊢
          refine hK.out _ _ ?_ (fun hHeld2 => ?_)
          · exact HQ.out.c
          clear hK K hHeld
          rename _ => hHeld
          try simp only [Act.put, List.setIfInBounds_toArray, List.set_cons_zero, List.set_cons_succ]
          refine wpAnyH_ready (rs := [8]) (by kernel_rfl) (by simp) (AllReadyH.cons (o := ⟨some 105, _, _, _, _, _⟩) rfl (fun K hK => ?_) AllReadyH.nil)
          go_simp
          have HO : Hid (OwnS B (.slice (some ⟨z1.heap.size, 0, none⟩) 0 0) [] (z1.alloc (.cells #[] 9))) := ownS_base (own_new z1 [] (by simp)) HQ.out.hB
          have hD0b : B ≤ z1.heap.size := HQ.out.hB
          have HQ := Lib.hid (HQ.out.next ((Below.refl _ z1).alloc (Nat.le_refl _) (.cells #[] 9)))
          have HS := Lib.hid (HS.out.kept ((Below.refl _ z1).alloc (Nat.le_refl _) (.cells #[] 9)))
          have hD0l : z1.heap.size < (z1.alloc (.cells #[] 9)).heap.size := by simp
          have hDD : ¬ z1.heap.size = D1 := by omega
          generalize z1.alloc (.cells #[] 9) = z2 at HO HQ hD0l HS ⊢
          generalize z1.heap.size = D0 at HO hD0b hD0l hDD ⊢
          refine hK.out _ _ ?_ (fun hHeld2 => ?_)
          · exact HQ.out.c
          clear hK K hHeld
          rename _ => hHeld
          try simp only [Act.put, List.setIfInBounds_toArray, List.set_cons_zero, List.set_cons_succ]
          refine wpAnyH_ready (rs := [10]) (by kernel_rfl) (by simp) (AllReadyH.cons (o := ⟨some 107, _, _, _, _, _⟩) rfl (fun K hK => ?_) AllReadyH.nil)
          obtain ⟨oc, cc, z3, hrun, hown, hfr⟩ := app_listF z2 B (.slice (some ⟨D0, 0, none⟩) 0 0) [] X oX cX HO.out HQ.out.rds (by simp) (by have := HXL.out; omega) 22
          rw [List.nil_append] at hrun hown
          rw [HXL.out] at hrun
          refine step_run_append (by rfl) _ _ 22 (by rfl) _ _ _ _ (by rfl) (by rfl) hrun ?_
          have HO := Lib.hid hown
          have HQ := Lib.hid (HQ.out.above (hfr.below B HQ.out.hB (fun k hk => by have hk2 : D0 = k := (by simpa [Value.ownBlock] using hk); omega)))
          have HS := Lib.hid (rds_fr HS.out hfr (fun hk => hDD (by simpa [Value.ownBlock] using hk)))
          have hzz : z2.heap.size ≤ z3.heap.size := hfr.size
          clear hrun hown hfr
          refine hK.out _ _ ?_ (fun hHeld2 => ?_)
          · exact HQ.out.c
          clear hK K hHeld
          rename _ => hHeld
          try simp only [Act.put, List.setIfInBounds_toArray, List.set_cons_zero, List.set_cons_succ]
          refine wpAnyH_ready (rs := [13]) (by kernel_rfl) (by simp) (AllReadyH.cons (o := ⟨some 110, _, _, _, _, _⟩) rfl (fun K hK => ?_) AllReadyH.nil)
          obtain ⟨oc2, cc2, zE, hrun, hown, hfr⟩ := app_list z3 B (.slice oc X.length cc) X [R] (some ⟨D1, 0, none⟩) 1 HO.out HS.out (fun _ _ => trivial) (by have := HXL.out; omega) (by simp) 22
          rw [HXL.out, HXR.out] at hrun
          rw [HXR.out] at hown
          refine step_run_append (by rfl) _ _ 22 (by rfl) _ _ _ _ (by rfl) (by rfl) hrun ?_
          have HQ := Lib.hid (HQ.out.above (hfr.below B HQ.out.hB (fun k hk => hk)))
          have hm := own_rds hown.1
          have HM := Lib.hid hm.2.2.2
          have hmc := hm.2.1
          have hmm := hm.2.2.1
          clear hrun hown hfr hm
          refine hK.out _ _ ?_ (fun hHeld2 => ?_)
          · exact HQ.out.c
          clear hK K hHeld
          rename _ => hHeld
          try simp only [Act.put, List.setIfInBounds_toArray, List.set_cons_zero, List.set_cons_succ]
          refine wpAnyH_ready (rs := [14]) (by kernel_rfl) (by simp) (AllReadyH.cons (o := ⟨some 111, _, _, _, _, _⟩) rfl (fun K hK => ?_) AllReadyH.nil)
          go_simp
          have hvf := verify_in R n j x oc2 XR cc2 zE hj (by omega) hxz (by have := HXRL.out; omega) hmc hmm HM.out HQ.out.tab
          rw [HVF.out] at hvf
          refine hvf.mono ?_
          rintro e zF ⟨rfl, hz⟩
          have HQ := Lib.hid (HQ.out.next hz)
          clear hvf hz hmc hmm
          go_simp
          refine hK.out _ _ ?_ (fun hHeld2 => ?_)
          · exact HQ.out.c
          clear hK K hHeld
          rename _ => hHeld
          try simp only [Act.put, List.setIfInBounds_toArray, List.set_cons_zero, List.set_cons_succ]
          refine wpAnyH_take (i := 15) (oi := ⟨some 13, _, _, _, _, _⟩) (v := ?vd15) rfl (by kernel_rfl) (by kernel_rfl) (by kernel_rfl) (fun _ _ _ h => h) (Or.inl ⟨by rfl, ?yd15⟩) (by assumption) ?rd15
          case yd15 => (intro w hSw; (try dsimp only at hSw); go_simp; (try (with_reducible rfl)))
          try simp only [Act.put, List.setIfInBounds_toArray, List.set_cons_zero, List.set_cons_succ]
          refine wpAnyH_done (by kernel_rfl) ?_ _
          clear hHeld HO HS HM
          have c5 := HQ.out.c
          have l5 := HQ.out.lt
          go_wp2_with fail
          rcases hcase with hx0 | ⟨hx1, hc1⟩ | ⟨hx1, hc1⟩
          · have q9 : ¬ (0 : Int) < (xl : Int) := by omega
            go_quiet (fail)
            go_wp2_with fail
            go_ret
            exact ⟨rfl, HQ.out.bel.trans ⟨rfl, rfl, rfl, Nat.le_refl _, fun _ _ => rfl⟩⟩
          · obtain rfl := hc1
            obtain rfl : xl = 1 := by omega
            obtain ⟨bX, oX', rfl, hbX⟩ := HQ.out.rds.some (by rw [HXL.out]; decide)
            have IV : Hid (∀ W, Hid (PQ w B b o j x (some ⟨bX, oX', none⟩) X W) → Calls Tryd.prog 20 #[.string R, .int .i64 (n : Int), .int .i64 (j : Int), .string x, .slice (some ⟨bX, oX', none⟩) 0 0] W fun e w' => e = .returned (.bool false) ∧ Below W.heap.size W w') := fun W hW => by
              have h0 : X.drop 1 = [] := List.drop_of_length_le (by rw [HXL.out]; exact Nat.le_refl _)
              have := verify_in R n j x (some ⟨bX, oX', none⟩) [] 0 W hj (by omega) hxz (by simp) (by simp) (by omega) (.inl rfl) hW.out.tab
              have hv := HVS.out (by decide)
              rw [h0] at hv
              rw [hv] at this
              exact this
            clear hbX
            go_region_held3 (fun W => W.cell? ⟨b, o + j, none⟩ = some (.string x) ∧ Hid (PQ w B b o j x (some ⟨bX, oX', none⟩) X W)) (first | exact ⟨c5, Lib.hid (HQ.out.next (Below.refl _ _).drew)⟩ | exact pq_next (by assumption) (by assumption))
              (first | ((with_reducible refine (IV.out _ (And.right (by assumption))).mono ?_); rintro e w' ⟨rfl, hb⟩))
            go_wp2_with fail
            go_ret
            exact ⟨rfl, pq_bel (by assumption)⟩
          · have q9 : (0 : Int) < (xl : Int) := by omega
            have q10 : (1 : Int) ≤ (xl : Int) := by omega
            have q11 : (xl : Int) ≤ (cX : Int) := by omega
            have q12 : (1 : Int) ≤ (cX : Int) := by omega
            have q13 : (1 : Int) < (cX : Int) := by omega
            have q14 : ¬ 1 = cX := by omega
            have q15 : ¬ cX = 1 := by omega
            have q16 : 0 < xl := by omega
            have q17 : decide ((0 : Int) < (xl : Int)) = true := decide_eq_true q9
            have q18 : decide (0 < xl) = true := decide_eq_true q16
            have q19 : 1 ≤ xl := by omega
            obtain ⟨bX, oX', rfl, hbX⟩ := HQ.out.rds.some (by rw [HXL.out]; omega)
            have IV : Hid (∀ W, Hid (PQ w B b o j x (some ⟨bX, oX', none⟩) X W) → Calls Tryd.prog 20 #[.string R, .int .i64 (n : Int), .int .i64 (j : Int), .string x, .slice (some ⟨bX, oX' + 1, none⟩) (xl - 1) (cX - 1)] W fun e w' => e = .returned (.bool false) ∧ Below W.heap.size W w') := fun W hW => by
              obtain ⟨b', o', he, hr⟩ := hW.out.rds.some (by rw [HXL.out]; omega)
              cases he
              have hdl : (X.drop 1).length = xl - 1 := by rw [List.length_drop, HXL.out]
              have := verify_in R n j x (some ⟨bX, oX' + 1, none⟩) (X.drop 1) (cX - 1) W hj (by omega) hxz (by rw [hdl]; omega) (by rw [hdl]; omega) (by omega) (hr.drop 1).rds hW.out.tab
              rw [HVS.out (by omega), hdl] at this
              exact this
            clear hbX hc1
            go_region_held3 (fun W => W.cell? ⟨b, o + j, none⟩ = some (.string x) ∧ Hid (PQ w B b o j x (some ⟨bX, oX', none⟩) X W)) (first | exact ⟨c5, Lib.hid (HQ.out.next (Below.refl _ _).drew)⟩ | exact pq_next (by assumption) (by assumption))
              (first | ((with_reducible refine (IV.out _ (And.right (by assumption))).mono ?_); rintro e w' ⟨rfl, hb⟩))
            go_wp2_with fail
            go_ret
            exact ⟨rfl, pq_bel (by assumption)⟩
      · have hmo : m < 0 ∨ (n : Int) ≤ m := by omega
        have HPR := Lib.hid (proof_out oL n cL m wr (by omega) hmo)
        have HVX := Lib.hid (verify_out R n m ⟨#[]⟩ none 0 0 wr hmo)
        rcases (show m < 0 ∨ ((n : Int) ≤ m ∧ decide (m < (n : Int)) = false ∧ 0 ≤ m) from by
          by_cases g : m < 0
          · exact .inl g
          · exact .inr ⟨by omega, decide_eq_false (by omega), by omega⟩) with g0 | ⟨g0, g1, g2⟩
        all_goals
          clear hm hkn hmo
          go_wp2_with fail
          refine HPR.out.mono ?_
          rintro e w4 ⟨rfl, rfl⟩
          go_wp2_with fail
          refine HVX.out.mono ?_
          rintro e w4 ⟨rfl, hb4⟩
          have HL4 := Lib.hid (HLr.out.next hb4)
          clear hb4
          go_wp2_with fail
          go_ret
          exact ⟨rfl, HL4.out.bel⟩
end Go.Proofs.YtggnldljfjhhcaaDoor
