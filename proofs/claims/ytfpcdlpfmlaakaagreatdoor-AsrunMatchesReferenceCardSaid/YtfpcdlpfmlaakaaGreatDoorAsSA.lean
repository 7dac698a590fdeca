/-
  The reference implementation of package digest: rotated, extended.
-/
import Derived.WalkKit
import Derived.LoopTactic
import Derived.WalkSpells
import Derived.WalkLawsBesides
import Derived.IntWalk
import Derived.Outline
import Derived.Deep.QuietTactic
import Derived.BigQuiet
import Derived.Deep.RegionLaw
import Derived.Deep.RegionHeld3
import Derived.Deep.DrawnRows
import Derived.Deep.AppendLies
import Derived.Laws.EntriesVeiled
import Derived.Lib.Hide
import Derived.Laws.OwnMore
import Derived.Test.YtfpcdlpfmlaakaaGreatDoorAsShb
import Derived.Test.YtfpcdlpfmlaakaaGreatDoorDgG
import Derived.Test.YtfpcdlpfmlaakaaGreatDoorDgI
import Derived.Test.YtfpcdlpfmlaakaaGreatDoorDgK
import Derived.Test.YtfpcdlpfmlaakaaGreatDoorDgN
set_option linter.unusedVariables false
set_option linter.unusedSimpArgs false
namespace Go.Proofs.YtfpcdlpfmlaakaaGreatDoor
open Go.RowKit Onair
attribute [local go_sem ↓] Go.wp_at_zero Go.wp_at_succ
/-- Values of one cell each lie at the address. -/
def RdV (W : World) (oa : Option Addr) (xs : List Value) : Prop := xs = [] ∨ ∃ b o, oa = some ⟨b, o, none⟩ ∧ b < W.heap.size ∧ ∀ (j : Nat) v, xs[j]? = some v → W.cell? ⟨b, o + j, none⟩ = some v
theorem RdV.kept {W W' : World} {oa : Option Addr} {xs : List Value} (h : RdV W oa xs) (hb : Below W.heap.size W W') : RdV W' oa xs := by
  rcases h with h | ⟨b, o, e, hlt, h⟩
  · exact .inl h
  · exact .inr ⟨b, o, e, Nat.lt_of_lt_of_le hlt hb.size, fun j v hj => (hb.cell (p := ⟨b, o + j, none⟩) hlt).trans (h j v hj)⟩
theorem RdV.some {W : World} {oa : Option Addr} {xs : List Value} (h : RdV W oa xs) (h0 : 0 < xs.length) : ∃ b o, oa = some ⟨b, o, none⟩ ∧ b < W.heap.size ∧ ∀ (j : Nat) v, xs[j]? = some v → W.cell? ⟨b, o + j, none⟩ = some v := by
  rcases h with rfl | h
  · simp at h0
  · exact h
def OwnV (t : TypeId) (B : Nat) (v : Value) (xs : List Value) (W : World) : Prop := W.ownsRow B t 1 v xs.length xs ∧ B ≤ W.heap.size
theorem OwnV.kept {t : TypeId} {B : Nat} {v : Value} {xs : List Value} {W W' : World} (h : OwnV t B v xs W) (hb : Below W.heap.size W W') : OwnV t B v xs W' :=
  ⟨ownsRow_keptF h.1 (fun k hk => hb.block _ (own_lt h.1 k hk)), Nat.le_trans h.2 hb.size⟩
theorem OwnV.rd {t : TypeId} {B : Nat} {oa : Option Addr} {n cap : Nat} {xs : List Value} {W : World} (h : OwnV t B (.slice oa n cap) xs W) : RdV W oa xs ∧ n = xs.length ∧ n ≤ cap ∧ cap ≤ 9223372036854775807 := by
  have h' := h.1
  rcases h.1.2 with ⟨he, h0⟩ | ⟨g, cap', cur, he, q1, q2, q3⟩
  · simp at he
    have : xs = [] := List.eq_nil_of_length_eq_zero h0
    exact ⟨.inl this, by rw [he.2.1, h0], by omega, by omega⟩
  · simp at he
    obtain ⟨rfl, rfl, rfl⟩ := he
    refine ⟨.inr ⟨g, 0, rfl, (Array.getElem?_eq_some_iff.1 q2).1, fun i c hi => ?_⟩, rfl, by obtain ⟨q4, q5, q6⟩ := q3; omega, by obtain ⟨q4, q5, q6⟩ := q3; unfold maxLen at q5; omega⟩
    have hil : i < xs.length := (List.getElem?_eq_some_iff.1 hi).1
    rw [Nat.zero_add, h'.cellAt _ (by omega)]
    exact hi
section
variable {st t : TypeId} {z : Value} {bytes : Nat}
theorem app_one (hu : Tryz.prog.underlying st = some (.slice t)) (hinf : (Tryz.prog.info? t).map (fun i => (i.zero, i.size, i.bytes)) = some (some z, 1, bytes)) (hzc : z.cells.size = 1) (hby : bytes ≤ 16)
    (W : World) (B : Nat) (v : Value) (xs : List Value) (u : Value) (ho : OwnV t B v xs W) (hxl : xs.length ≤ 1000000) (h1u : u.oneCell' = true) (ty : TypeId) :
    ∃ oa cap w', (Builtin.append_ #[st, st] ty #[v, .slice (some ⟨W.heap.size, 0, none⟩) 1 1]).run Tryz.prog (W.alloc (.cells #[u] t)) = .ok (.slice oa (xs.length + 1) cap) w' ∧ OwnV t B (.slice oa (xs.length + 1) cap) (xs ++ [u]) w' ∧ Fr (fun k => B ≤ k) W w' := by
  obtain ⟨i0, hi, hz0, hz1, hz2⟩ := info_parts hinf
  have hge := own_ge ho.1
  have hnew : Blk (W.alloc (.cells #[u] t)) W.heap.size t [u] := Blk.new W _ _
  obtain ⟨v', w', hrun, h1, h2, h3⟩ := app_own (P := Tryz.prog) (W := W.alloc (.cells #[u] t)) B st ty t i0 z 1 bytes hu hi hz0 hz1 hz2 hzc (by decide) v xs.length xs (ho.1.alloc _) ⟨W.heap.size, 0, none⟩ 1 1 [u] rfl (fun j w hj => by
      rw [show ((⟨W.heap.size, 0, none⟩ : Addr).add j) = ⟨W.heap.size, j, none⟩ from by unfold Addr.add; split <;> simp_all, hnew.cell]
      exact hj) (by intro w hw; simp at hw; subst hw; exact h1u) (by unfold maxLen; omega) (by
        have : (xs.length + 1) * bytes ≤ (xs.length + 1) * 16 := Nat.mul_le_mul_left _ hby
        omega) (by have := ho.2; simp; omega)
  obtain ⟨oa, cap, rfl⟩ := own_slice h1
  refine ⟨oa, cap, w', hrun, ⟨by rw [List.length_append]; exact h1, Nat.le_trans (Nat.le_trans ho.2 (by simp)) h2.size⟩, ((Fr.refl _ W).alloc _).trans (h2.mono (fun k hk => hge k hk)) (fun _ _ h => h)⟩
theorem step_appV {ops : Array Oper} {o : Oper} {a : Act} {K : Act → World → Prop} {Q : Exit → Act → World → Prop} {E : Prop} {B : Nat} {v : Value} {xs : List Value} {W : World} {u : Value}
    (hu : Tryz.prog.underlying st = some (.slice t)) (hinf : (Tryz.prog.info? t).map (fun i => (i.zero, i.size, i.bytes)) = some (some z, 1, bytes)) (hzc : z.cells.size = 1) (hby : bytes ≤ 16) (hgd : o.guard = none) (s x : Operand)
    (ho : o.op = .call { callee := .builtin .append, args := #[s, x], argTypes := #[st, st] }) (hs : a.eval s = v) (hx : a.eval x = .slice (some ⟨W.heap.size, 0, none⟩) 1 1)
    (h : Hid (OwnV t B v xs W)) (hl : xs.length ≤ 1000000) (h1u : u.oneCell' = true)
    (hK : ∀ oa cap w', Hid (OwnV t B (.slice oa (xs.length + 1) cap) (xs ++ [u]) w') → Hid (Fr (fun k => B ≤ k) W w') → K (a.put o.dst (.slice oa (xs.length + 1) cap)) w') :
    if Region.wanted o (yielded ops a.tmps) = true then Oper.wp Tryz.prog o a (W.alloc (.cells #[u] t)) K Q else E := by
  have hw : Region.wanted o (yielded ops a.tmps) = true := by simp [Region.wanted, hgd]
  rw [if_pos hw]
  obtain ⟨oa, cap, w', hrun, h2, h3⟩ := app_one hu hinf hzc hby W B v xs u h.out hl h1u o.type
  unfold Oper.wp
  simp [execOp, ho, resolve, invoke, builtin, hs, hx, hrun, Result.andThen]
  exact hK oa cap w' h2 h3
end
theorem inf8 : (Tryz.prog.info? 5).map (fun i => (i.zero, i.size, i.bytes)) = some (some (.int .u8 0), 1, 1) := by kernel_rfl
theorem inf32 : (Tryz.prog.info? 144).map (fun i => (i.zero, i.size, i.bytes)) = some (some (.int .u32 0), 1, 4) := by kernel_rfl
theorem app_one8 (W : World) (B : Nat) (v : Value) (xs : List Value) (u : Value) (ho : OwnV 5 B v xs W) (hxl : xs.length ≤ 140737488351320) (h1u : u.oneCell' = true) (ty : TypeId) :
    ∃ oa cap w', (Builtin.append_ #[42, 42] ty #[v, .slice (some ⟨W.heap.size, 0, none⟩) 1 1]).run Tryz.prog (W.alloc (.cells #[u] 5)) = .ok (.slice oa (xs.length + 1) cap) w' ∧ OwnV 5 B (.slice oa (xs.length + 1) cap) (xs ++ [u]) w' ∧ Fr (fun k => B ≤ k) W w' := by
  obtain ⟨i0, hi, hz0, hz1, hz2⟩ := info_parts inf8
  have hge := own_ge ho.1
  have hnew : Blk (W.alloc (.cells #[u] 5)) W.heap.size 5 [u] := Blk.new W _ _
  obtain ⟨v', w', hrun, h1, h2, h3⟩ := app_own (P := Tryz.prog) (W := W.alloc (.cells #[u] 5)) B 42 ty 5 i0 (.int .u8 0) 1 1 Tryz.underlying42 hi hz0 hz1 hz2 rfl (by decide) v xs.length xs (ho.1.alloc _) ⟨W.heap.size, 0, none⟩ 1 1 [u] rfl (fun j w hj => by
      rw [show ((⟨W.heap.size, 0, none⟩ : Addr).add j) = ⟨W.heap.size, j, none⟩ from by unfold Addr.add; split <;> simp_all, hnew.cell]
      exact hj) (by intro w hw; simp at hw; subst hw; exact h1u) (by unfold maxLen; omega) (by omega) (by have := ho.2; simp; omega)
  obtain ⟨oa, cap, rfl⟩ := own_slice h1
  refine ⟨oa, cap, w', hrun, ⟨by rw [List.length_append]; exact h1, Nat.le_trans (Nat.le_trans ho.2 (by simp)) h2.size⟩, ((Fr.refl _ W).alloc _).trans (h2.mono (fun k hk => hge k hk)) (fun _ _ h => h)⟩
set_option maxHeartbeats 2000000 in
set_option maxRecDepth 100000 in
theorem refRot_any (x n s : Nat) (w : World) (hx : x < 4294967296) (hn0 : 0 < n) (hn : n < 32) (hs : 32 - n = s) :
    Calls Tryz.prog 116 #[.int .u32 (x : Int), .int .i64 (n : Int)] w fun e w' => e = .returned (.int .u32 (rotl x s : Nat)) ∧ ∃ m, w' = w.drewN m := by
  have HE : Hid (bits BinOp.or IntKind.u32 ((x : Int) / 2 ^ n) ((x : Int) * 2 ^ s % 4294967296) = (rotl x s : Nat)) := by
    show _ = _
    have e1 : ((x : Int) * 2 ^ s % 4294967296) = ((x * 2 ^ s % 4294967296 : Nat) : Int) := by simp
    have e2 : ((x : Int) / 2 ^ n) = ((x / 2 ^ n : Nat) : Int) := by simp
    rw [e1, e2, u32_or_nat _ _ (Nat.lt_of_le_of_lt (Nat.div_le_self _ _) hx) (Nat.mod_lt _ (by decide))]
    unfold rotl
    rw [Nat.or_comm, show 32 - s = n by omega]
  have q1 : (32 : Int) - (n : Int) = (s : Int) := by omega
  have q2 : IntKind.i64.wrap ((32 : Int) - (n : Int)) = (s : Int) := by rw [IntWalk.i64_in _ (by omega)]; exact q1
  have q3 : (0 : Int) ≤ (s : Int) := by omega
  have q4 : (0 : Int) ≤ (n : Int) := by omega
  have q5 : s < 32 := by omega
  clear hs
  go_enter Tryz.func116, Tryz.ntmps116
  go_wp2_with fail
  go_quiet (fail)
  go_wp2_with fail
  go_ret
  exact ⟨ret_int HE.out, nq, rfl⟩
theorem zerosN_iff (n j : Nat) (h : j ≤ zerosN n) : ((n + 1 + j) % 64 = 56) ↔ j = zerosN n := by
  unfold zerosN at *
  omega
theorem be8_take (n r : Nat) (h : r < 8) : (be8 n).take (r + 1) = (be8 n).take r ++ [UInt8.ofNat (n * 8 / 256 ^ (7 - r))] := by
  have hl := be8_len n
  rw [List.take_succ_eq_append_getElem (by omega)]
  congr 1
  simp [be8]
def PadP (w : World) (L : List UInt8) (e : Ending) (w' : World) : Prop := ∃ oa cap, e = .returned (.slice oa (padL L).length cap) ∧ OwnV 5 w.heap.size (.slice oa (padL L).length cap) (cellsB (padL L)) w' ∧ Below w.heap.size w w'
set_option maxHeartbeats 4000000 in
set_option maxRecDepth 100000 in
theorem refExt_any (s : ByteArray) (w : World) (hs : s.size ≤ 140737488351232) :
    Calls Tryz.prog 99 #[.string s] w (PadP w s.data.toList) := by
  obtain ⟨L, hL⟩ : ∃ L, s.data.toList = L := ⟨_, rfl⟩
  have hLs : L.length = s.size := by rw [← hL]; exact blen s
  have HLL := Lib.hid hL
  have HLS := Lib.hid hLs
  rw [hL]
  clear hL hLs
  go_enter Tryz.func99, Tryz.ntmps99
  go_wp2_with fail
  go_loopw [3, 4] (fun v i wr => ∃ (k : Nat) (oa : Option Addr) (cap : Nat), k ≤ s.size ∧ i = .int .i64 k ∧ v = .slice oa k cap ∧ Hid (OwnV 5 w.heap.size (.slice oa k cap) (cellsB (L.take k)) wr) ∧ Hid (Below w.heap.size w wr)) (fun _ i _ => s.size - (intOf i).toNat)
  case atStart => exact ⟨0, none, 0, Nat.zero_le _, rfl, rfl, ⟨World.ownsRow_nil _ _ _ _, Nat.le_refl _⟩, Below.refl _ _⟩
  case round =>
    obtain ⟨k, oa, cap, hk, rfl, rfl, HO, HB⟩ := hrel
    by_cases h : k = s.size
    · have q1 : ¬ (k : Int) < (s.size : Int) := by omega
      have ho := HO.out
      rw [List.take_of_length_le (by rw [HLS.out]; omega)] at ho
      have hcl : (cellsB L).length = k := by rw [cellsB_len, HLS.out, h]
      obtain ⟨oa2, cap2, w2, hrun, hown, hfr⟩ := app_one8 wr w.heap.size (.slice oa k cap) (cellsB L) (.int .u8 128) ho (by rw [hcl]; omega) rfl 42
      rw [hcl] at hrun hown
      have HB2 := Lib.hid (HB.out.trans (hfr.below w.heap.size HB.out.size (fun k hk => hk)))
      have H0 : Hid (OwnV 5 w.heap.size (.slice oa2 (k + 1) cap2) (cellsB (L ++ 128 :: List.replicate 0 0)) w2) := by
        have e : cellsB (L ++ 128 :: List.replicate 0 0) = cellsB L ++ [.int .u8 128] := by simp [cellsB]
        show OwnV _ _ _ _ _
        rw [e]
        exact hown
      have HK : Hid (k = s.size) := h
      clear ho hcl hown hfr HO HB h
      go_wp2_with (at_builtin; refine wpList_append_run _ rfl _ _ 42 rfl _ _ _ _ rfl rfl hrun ?_)
      clear hrun
      obtain ⟨z, hz⟩ : ∃ z, zerosN L.length = z := ⟨_, rfl⟩
      have hz63 : z ≤ 63 := by rw [← hz]; unfold zerosN; omega
      have HZZ := Lib.hid hz
      clear hz
      go_loopg [3] z (fun g v wr => ∃ (j : Nat) (oa : Option Addr) (cap : Nat), j + g = z ∧ v = .slice oa (k + 1 + j) cap ∧ Hid (OwnV 5 w.heap.size (.slice oa (k + 1 + j) cap) (cellsB (L ++ 128 :: List.replicate j 0)) wr) ∧ Hid (Below w.heap.size w wr))
      case atStart => exact ⟨0, oa2, cap2, by omega, rfl, H0, HB2⟩
      case round =>
        clear H0 HB2
        obtain ⟨j, ob, cb, hj, rfl, HO, HB⟩ := hrel
        obtain ⟨nn, hnn⟩ : ∃ nn, k + 1 + j = nn := ⟨_, rfl⟩
        have hnb : nn ≤ 140737488351300 := by omega
        have hmod : (nn % 64 = 56) ↔ j = z := by
          have := zerosN_iff L.length j (by rw [HZZ.out]; omega)
          rw [HZZ.out, HLS.out, ← HK.out, hnn] at this
          exact this
        rw [hnn] at HO ⊢
        have HNN := Lib.hid hnn
        have hcl : (cellsB (L ++ 128 :: List.replicate j 0)).length = nn := by
          rw [cellsB_len, List.length_append, List.length_cons, List.length_replicate, HLS.out, ← HK.out]
          omega
        have HCL := Lib.hid hcl
        clear hnn hcl
        by_cases hjz : j = z
        · have q2 : ((nn : Int) % 64 != 56) = false := by
            have := hmod.2 hjz
            rw [bne_eq_false_iff_eq]
            omega
          obtain rfl := hjz
          clear hmod
          have HO0 : Hid (OwnV 5 w.heap.size (.slice ob (nn + 0) cb) (cellsB ((L ++ 128 :: List.replicate j 0) ++ (be8 L.length).take 0)) wr) := by
            show OwnV _ _ _ _ _
            rw [List.take_zero, List.append_nil]
            exact HO.out
          go_wp2_with fail
          clear q2
          go_loopw [3, 5] (fun v i wr => ∃ (r : Nat) (oa : Option Addr) (cap : Nat), r ≤ 8 ∧ i = .int .i64 (7 - (r : Int)) ∧ v = .slice oa (nn + r) cap ∧ Hid (OwnV 5 w.heap.size (.slice oa (nn + r) cap) (cellsB ((L ++ 128 :: List.replicate j 0) ++ (be8 L.length).take r)) wr) ∧ Hid (Below w.heap.size w wr)) (fun _ i _ => (intOf i + 1).toNat)
          case atStart => exact ⟨0, ob, cb, Nat.zero_le _, rfl, rfl, HO0, HB⟩
          case round =>
            clear HO0 HB HO
            obtain ⟨r, oc, cc, hr, rfl, rfl, HO, HB⟩ := hrel
            by_cases hr8 : r = 8
            · have q3 : ¬ (0 : Int) ≤ 7 - (r : Int) := by omega
              have HE : Hid ((L ++ 128 :: List.replicate j 0) ++ (be8 L.length).take r = padL L) := by
                show _ = _
                unfold padL
                rw [List.take_of_length_le (by rw [be8_len]; omega), HZZ.out, List.append_assoc, List.cons_append]
              have HF : Hid (nn + r = (padL L).length) := by
                show _ = _
                rw [← HE.out, List.length_append, List.length_take, be8_len, ← cellsB_len, HCL.out]
                omega
              clear hr8
              go_wp2_with fail
              go_ret
              refine ⟨oc, cc, by rw [← HF.out]; rfl, ?_, HB.out⟩
              have := HO.out
              rw [HE.out, HF.out] at this
              exact this
            · have hr7 : r < 8 := by omega
              obtain ⟨q, hq⟩ : ∃ q, 7 - r = q := ⟨_, rfl⟩
              have e1 : (7 : Int) - (r : Int) = (q : Int) := by omega
              have q0 : (0 : Int) ≤ (q : Int) := by omega
              have q7 : q ≤ 7 := by omega
              have hcl : (cellsB ((L ++ 128 :: List.replicate j 0) ++ (be8 L.length).take r)).length = nn + r := by
                rw [cellsB_append, List.length_append, HCL.out, cellsB_len, List.length_take, be8_len]
                omega
              obtain ⟨od, cd, w3, hrun, hown, hfr⟩ := app_one8 wr w.heap.size (.slice oc (nn + r) cc) _ (.int .u8 ((UInt8.ofNat (L.length * 8 / 256 ^ (7 - r))).toNat : Int)) HO.out (by rw [hcl]; omega) rfl 42
              rw [hcl] at hrun hown
              have HB3 := Lib.hid (HB.out.trans (hfr.below w.heap.size HB.out.size (fun k hk => hk)))
              have HO3 : Hid (OwnV 5 w.heap.size (.slice od (nn + (r + 1)) cd) (cellsB ((L ++ 128 :: List.replicate j 0) ++ (be8 L.length).take (r + 1))) w3) := by
                show OwnV _ _ _ _ _
                rw [be8_take _ _ hr7, ← List.append_assoc, cellsB_append _ [_]]
                exact hown
              rw [byte_shr, hq, HLS.out, Int.mul_comm (s.size : Int) 8] at hrun
              obtain ⟨m, hm⟩ : ∃ m, nn + r = m := ⟨_, rfl⟩
              have e2 : nn + (r + 1) = m + 1 := by omega
              rw [hm] at hrun
              rw [e1, hm]
              rw [e2] at HO3
              have HE1 := Lib.hid e1
              have HE2 := Lib.hid e2
              clear hcl hown hfr HO HB hm e1 e2 hr8
              go_wp2_with (at_builtin; refine wpList_append_run _ rfl _ _ 42 rfl _ _ _ _ rfl rfl hrun ?_)
              clear hrun
              go_roundw
              case rel => exact ⟨r + 1, od, cd, by omega, by have := HE1.out; first | (rw [← this]; go_num) | go_num, by rw [HE2.out], by rw [HE2.out]; exact HO3, HB3⟩
              case measure => first | (simp [intOf]; done) | (simp [intOf]; omega)
        · have q2 : ((nn : Int) % 64 != 56) = true := by
            have h56 : ¬ nn % 64 = 56 := fun e => hjz (hmod.1 e)
            rw [bne_iff_ne]
            omega
          obtain ⟨od, cd, w3, hrun, hown, hfr⟩ := app_one8 wr w.heap.size (.slice ob nn cb) _ (.int .u8 0) HO.out (by rw [HCL.out]; omega) rfl 42
          rw [HCL.out] at hrun hown
          have HB3 := Lib.hid (HB.out.trans (hfr.below w.heap.size HB.out.size (fun k hk => hk)))
          have HO3 : Hid (OwnV 5 w.heap.size (.slice od (k + 1 + (j + 1)) cd) (cellsB (L ++ 128 :: List.replicate (j + 1) 0)) w3) := by
            have e : cellsB (L ++ 128 :: List.replicate (j + 1) 0) = cellsB (L ++ 128 :: List.replicate j 0) ++ [.int .u8 0] := by
              rw [List.replicate_succ']
              simp [cellsB]
            show OwnV _ _ _ _ _
            rw [e, show k + 1 + (j + 1) = nn + 1 by have := HNN.out; omega]
            exact hown
          have HE2 : Hid (k + 1 + (j + 1) = nn + 1) := by have := HNN.out; show _ = _; omega
          clear hown hfr HO HB hmod HCL
          go_wp2_with (at_builtin; refine wpList_append_run _ rfl _ _ 42 rfl _ _ _ _ rfl rfl hrun ?_)
          clear hrun
          go_roundg (z - (j + 1))
          case rel => exact ⟨j + 1, od, cd, by omega, by rw [HE2.out], HO3, HB3⟩
          case measure => omega
    · have hlt : k < s.size := by omega
      have q1 : (k : Int) < (s.size : Int) := by omega
      obtain ⟨c, hc⟩ : ∃ c : UInt8, s[k] = c := ⟨_, rfl⟩
      have hcl : (cellsB (L.take k)).length = k := by rw [cellsB_len, List.length_take, HLS.out]; omega
      obtain ⟨od, cd, w3, hrun, hown, hfr⟩ := app_one8 wr w.heap.size (.slice oa k cap) _ (.int .u8 (c.toNat : Int)) HO.out (by rw [hcl]; omega) rfl 42
      rw [hcl] at hrun hown
      have HB3 := Lib.hid (HB.out.trans (hfr.below w.heap.size HB.out.size (fun k hk => hk)))
      have HO3 : Hid (OwnV 5 w.heap.size (.slice od (k + 1) cd) (cellsB (L.take (k + 1))) w3) := by
        have hkL : k < L.length := by rw [HLS.out]; exact hlt
        have e : L[k]'hkL = c := by
          have := HLL.out
          subst this
          exact hc
        show OwnV _ _ _ _ _
        rw [List.take_succ_eq_append_getElem hkL, cellsB_append, e]
        exact hown
      clear hcl hown hfr HO HB h
      go_wp2_with (at_builtin; refine wpList_append_run _ rfl _ _ 42 rfl _ _ _ _ rfl rfl hrun ?_)
      clear hrun
      go_roundw
      case rel => exact ⟨k + 1, od, cd, by omega, by go_num, rfl, HO3, HB3⟩
      case measure => simp [intOf]; omega
end Go.Proofs.YtfpcdlpfmlaakaaGreatDoor
