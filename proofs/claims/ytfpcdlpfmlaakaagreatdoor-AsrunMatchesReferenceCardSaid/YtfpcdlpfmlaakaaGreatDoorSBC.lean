/-
  The reference implementation of package digest: block.
  The reference implementation of package digest: Sum.
-/
import Derived.WalkKit
import Derived.LoopTactic
import Derived.WalkSpells
import Derived.WalkLawsBesides
import Derived.IntWalk
import Derived.Outline
import Derived.Deep.QuietTactic
import Derived.BigQuiet
import Derived.Deep.RegionLaw
import Derived.Deep.RegionHeld3
import Derived.Deep.DrawnRows
import Derived.Deep.AppendLies
import Derived.Laws.EntriesVeiled
import Derived.Lib.Hide
import Derived.Laws.OwnMore
import Derived.Test.YtfpcdlpfmlaakaaGreatDoorAsShb
import Derived.Test.YtfpcdlpfmlaakaaGreatDoorDgG
import Derived.Test.YtfpcdlpfmlaakaaGreatDoorDgI
import Derived.Test.YtfpcdlpfmlaakaaGreatDoorDgK
import Derived.Test.YtfpcdlpfmlaakaaGreatDoorDgN
import Derived.Test.YtfpcdlpfmlaakaaGreatDoorAsSA
import Derived.Test.YtfpcdlpfmlaakaaGreatDoorDgD
set_option linter.unusedVariables false
set_option linter.unusedSimpArgs false
namespace Go.Proofs.YtfpcdlpfmlaakaaGreatDoor
open Go.RowKit Onair
attribute [local go_sem ↓] Go.wp_at_zero Go.wp_at_succ
theorem step_appN {st t : TypeId} {z : Value} {bytes : Nat} {ops : Array Oper} {o : Oper} {a : Act} {K : Act → World → Prop} {Q : Exit → Act → World → Prop} {E : Prop} {B : Nat} {v : Value} {xs : List Value} {W : World} {u : Value} {n : Nat} (hn : xs.length = n)
    (hu : Tryz.prog.underlying st = some (.slice t)) (hinf : (Tryz.prog.info? t).map (fun i => (i.zero, i.size, i.bytes)) = some (some z, 1, bytes)) (hzc : z.cells.size = 1) (hby : bytes ≤ 16) (hgd : o.guard = none) (s x : Operand)
    (ho : o.op = .call { callee := .builtin .append, args := #[s, x], argTypes := #[st, st] }) (hs : a.eval s = v) (hx : a.eval x = .slice (some ⟨W.heap.size, 0, none⟩) 1 1)
    (h : Hid (OwnV t B v xs W)) (hl : n ≤ 1000000) (h1u : u.oneCell' = true)
    (hK : ∀ oa cap w', Hid (OwnV t B (.slice oa (n + 1) cap) (xs ++ [u]) w') → Hid (Fr (fun k => B ≤ k) W w') → K (a.put o.dst (.slice oa (n + 1) cap)) w') :
    if Region.wanted o (yielded ops a.tmps) = true then Oper.wp Tryz.prog o a (W.alloc (.cells #[u] t)) K Q else E := by
  subst hn
  exact step_appV hu hinf hzc hby hgd s x ho hs hx h hl h1u hK
theorem app_keep {st t : TypeId} {z : Value} {bytes : Nat} (hu : Tryz.prog.underlying st = some (.slice t)) (hinf : (Tryz.prog.info? t).map (fun i => (i.zero, i.size, i.bytes)) = some (some z, 1, bytes)) (hzc : z.cells.size = 1) (hby : bytes ≤ 16)
    (W : World) (B b o n cap : Nat) (xs : List Value) (u : Value) (ho : OwnV t B (.slice (some ⟨b, o, none⟩) n cap) xs W) (hn : xs.length = n) (hxl : n ≤ 1000000) (h1u : u.oneCell' = true) (ty : TypeId) :
    ∃ oa cap2 w', (Builtin.append_ #[st, st] ty #[.slice (some ⟨b, o, none⟩) n cap, .slice (some ⟨W.heap.size, 0, none⟩) 1 1]).run Tryz.prog (W.alloc (.cells #[u] t)) = .ok (.slice oa (n + 1) cap2) w' ∧ OwnV t B (.slice oa (n + 1) cap2) (xs ++ [u]) w' ∧ Fr (fun k => B ≤ k) W w' ∧ ∀ (j : Nat) x, xs[j]? = some x → w'.cell? ⟨b, o + j, none⟩ = some x := by
  subst hn
  obtain ⟨i0, hi, hz0, hz1, hz2⟩ := info_parts hinf
  have hnew : Blk (W.alloc (.cells #[u] t)) W.heap.size t [u] := Blk.new W _ _
  have hcel : ∀ (j : Nat) w, [u][j]? = some w → (W.alloc (.cells #[u] t)).cell? ((⟨W.heap.size, 0, none⟩ : Addr).add j) = some w := fun j w hj => by
    rw [show ((⟨W.heap.size, 0, none⟩ : Addr).add j) = ⟨W.heap.size, j, none⟩ from by unfold Addr.add; split <;> simp_all, hnew.cell]
    exact hj
  have hone : ∀ w ∈ [u], w.oneCell' = true := by intro w hw; simp at hw; subst hw; exact h1u
  have hAl := ho.1.alloc (.cells #[u] t)
  rcases hAl.2 with ⟨he, h0⟩ | ⟨g, cap', cur, he, q1, q2, q3, q4, q5, q6⟩
  · simp at he
  · simp at he
    obtain ⟨⟨rfl, rfl⟩, rfl⟩ := he
    have hF0 : Fr (fun k => B ≤ k) W (W.alloc (.cells #[u] t)) := (Fr.refl _ W).alloc _
    by_cases hr : xs.length + 1 ≤ cap
    · obtain ⟨w', hrun, r1, r2⟩ := run_append_fits (P := Tryz.prog) (W.alloc (.cells #[u] t)) B st ty t i0 1 hu hi hz1 b xs.length cap xs hAl ⟨W.heap.size, 0, none⟩ 1 1 [u] rfl hcel hone hr
      refine ⟨_, _, w', hrun, ⟨by rw [List.length_append]; exact r1, Nat.le_trans (Nat.le_trans ho.2 (by simp)) r2.size⟩, hF0.grown r2 (fun k e => by first | omega | (simp at e; omega) | exact .inl (by first | omega | (simp at e; omega))), fun j x hj => ?_⟩
      have hjl : j < xs.length := (List.getElem?_eq_some_iff.1 hj).1
      rw [Nat.zero_add, r1.cellAt j (by omega), List.getElem?_append_left hjl]
      exact hj
    · obtain ⟨v', w', hrun, r1, r2⟩ := run_append_arg_grows (P := Tryz.prog) (W.alloc (.cells #[u] t)) st ty t i0 z 1 bytes hu hi hz0 hz1 hz2 hzc (by decide) ⟨b, 0, none⟩ xs.length cap xs hAl.1 (fun j w hj => by
        have hj' : j < xs.length := (List.getElem?_eq_some_iff.1 hj).1
        rw [show ((⟨b, 0, none⟩ : Addr).add j) = ⟨b, j, none⟩ from by unfold Addr.add; split <;> simp_all, hAl.cellAt j (by omega)]
        exact hj) ⟨W.heap.size, 0, none⟩ 1 1 [u] rfl hcel (by omega) (by unfold maxLen; omega) (by
          have : (xs.length + 1) * bytes ≤ (xs.length + 1) * 16 := Nat.mul_le_mul_left _ hby
          omega)
      have hB2 : B ≤ (W.alloc (.cells #[u] t)).heap.size := Nat.le_trans ho.2 (by simp)
      have hw : w'.ownsRow B t 1 v' (xs.length + 1) (xs ++ [u]) := by
        refine ⟨r1.1, ?_⟩
        rcases r1.2 with h2 | ⟨g, cap, cur, p1, p2, p3⟩
        · exact .inl h2
        · exact .inr ⟨g, cap, cur, p1, Nat.le_trans hB2 p2, p3⟩
      obtain ⟨oa, cap2, rfl⟩ := own_slice hw
      have hF1 : Fr (fun k => (W.alloc (.cells #[u] t)).heap.size ≤ k) (W.alloc (.cells #[u] t)) w' := (Fr.refl _ _).grown r2 (fun k e => by cases e)
      have hbl : b < (W.alloc (.cells #[u] t)).heap.size := (Array.getElem?_eq_some_iff.1 q2).1
      refine ⟨oa, cap2, w', hrun, ⟨by rw [List.length_append]; exact hw, Nat.le_trans hB2 r2.size⟩, hF0.grown r2 (fun k e => by cases e), fun j x hj => ?_⟩
      have hjl : j < xs.length := (List.getElem?_eq_some_iff.1 hj).1
      rw [hF1.cell ⟨b, 0 + j, none⟩ hbl (by show ¬ _ ≤ b; omega), Nat.zero_add, hAl.cellAt j (by omega)]
      exact hj
theorem step_appK {st t : TypeId} {z : Value} {bytes : Nat} {ops : Array Oper} {o : Oper} {a : Act} {K : Act → World → Prop} {Q : Exit → Act → World → Prop} {E : Prop} {B b off n cap : Nat} {xs : List Value} {W : World} {u : Value} (hn : xs.length = n)
    (hu : Tryz.prog.underlying st = some (.slice t)) (hinf : (Tryz.prog.info? t).map (fun i => (i.zero, i.size, i.bytes)) = some (some z, 1, bytes)) (hzc : z.cells.size = 1) (hby : bytes ≤ 16) (hgd : o.guard = none) (s x : Operand)
    (ho : o.op = .call { callee := .builtin .append, args := #[s, x], argTypes := #[st, st] }) (hs : a.eval s = .slice (some ⟨b, off, none⟩) n cap) (hx : a.eval x = .slice (some ⟨W.heap.size, 0, none⟩) 1 1)
    (h : Hid (OwnV t B (.slice (some ⟨b, off, none⟩) n cap) xs W)) (hl : n ≤ 1000000) (h1u : u.oneCell' = true)
    (hK : ∀ oa cap w', Hid (OwnV t B (.slice oa (n + 1) cap) (xs ++ [u]) w') → Hid (Fr (fun k => B ≤ k) W w') → Hid (∀ (j : Nat) x, xs[j]? = some x → w'.cell? ⟨b, off + j, none⟩ = some x) → K (a.put o.dst (.slice oa (n + 1) cap)) w') :
    if Region.wanted o (yielded ops a.tmps) = true then Oper.wp Tryz.prog o a (W.alloc (.cells #[u] t)) K Q else E := by
  have hw : Region.wanted o (yielded ops a.tmps) = true := by simp [Region.wanted, hgd]
  rw [if_pos hw]
  obtain ⟨oa, cap2, w', hrun, h2, h3, h4⟩ := app_keep hu hinf hzc hby W B b off n cap xs u h.out hn hl h1u o.type
  unfold Oper.wp
  simp [execOp, ho, resolve, invoke, builtin, hs, hx, Result.andThen]
  rw [hrun]
  exact hK oa cap2 w' h2 h3 h4
def Lt32 (l : List Nat) : Prop := ∀ x ∈ l, x < 4294967296
def BlkP (w : World) (xs : List Value) (e : Ending) (w' : World) : Prop := ∃ oa cap, e = .returned (.slice oa 8 cap) ∧ RdV w' oa xs ∧ Below w.heap.size w w'
theorem or_add (a b k : Nat) (hb : b < 2 ^ k) : (a * 2 ^ k) ||| b = a * 2 ^ k + b := by
  have := Nat.two_pow_add_eq_or_of_lt (i := k) hb a
  rw [Nat.mul_comm, ← this]
theorem word_or (x0 x1 x2 x3 : Nat) (h0 : x0 < 256) (h1 : x1 < 256) (h2 : x2 < 256) (h3 : x3 < 256) :
    ((x0 * 16777216 ||| x1 * 65536) ||| x2 * 256) ||| x3 = ((((0 * 256 % 4294967296 ||| x0) * 256 % 4294967296 ||| x1) * 256 % 4294967296 ||| x2) * 256 % 4294967296 ||| x3) := by
  have a1 : x0 * 16777216 ||| x1 * 65536 = x0 * 16777216 + x1 * 65536 := or_add x0 (x1 * 65536) 24 (by omega)
  have a2 : (x0 * 16777216 + x1 * 65536) ||| x2 * 256 = x0 * 16777216 + x1 * 65536 + x2 * 256 := by
    have := or_add (x0 * 256 + x1) (x2 * 256) 16 (by omega)
    rw [show (x0 * 256 + x1) * 2 ^ 16 = x0 * 16777216 + x1 * 65536 by omega] at this
    exact this
  have a3 : (x0 * 16777216 + x1 * 65536 + x2 * 256) ||| x3 = x0 * 16777216 + x1 * 65536 + x2 * 256 + x3 := by
    have := or_add (x0 * 65536 + x1 * 256 + x2) x3 8 (by omega)
    rw [show (x0 * 65536 + x1 * 256 + x2) * 2 ^ 8 = x0 * 16777216 + x1 * 65536 + x2 * 256 by omega] at this
    exact this
  have b1 : (0 * 256 % 4294967296 ||| x0) = x0 := by simp
  have b2 : (x0 * 256 % 4294967296 ||| x1) = x0 * 256 + x1 := by
    rw [Nat.mod_eq_of_lt (by omega)]
    exact or_add x0 x1 8 (by omega)
  have b3 : ((x0 * 256 + x1) * 256 % 4294967296 ||| x2) = (x0 * 256 + x1) * 256 + x2 := by
    rw [Nat.mod_eq_of_lt (by omega)]
    exact or_add (x0 * 256 + x1) x2 8 (by omega)
  have b4 : (((x0 * 256 + x1) * 256 + x2) * 256 % 4294967296 ||| x3) = ((x0 * 256 + x1) * 256 + x2) * 256 + x3 := by
    rw [Nat.mod_eq_of_lt (by omega)]
    exact or_add ((x0 * 256 + x1) * 256 + x2) x3 8 (by omega)
  rw [a1, a2, a3, b1, b2, b3, b4]
  omega
theorem wordP_four (bs : List UInt8) (i : Nat) (x0 x1 x2 x3 : Nat) (e0 : (bs.getD (4 * i) 0).toNat = x0) (e1 : (bs.getD (4 * i + 1) 0).toNat = x1) (e2 : (bs.getD (4 * i + 2) 0).toNat = x2) (e3 : (bs.getD (4 * i + 3) 0).toNat = x3) :
    wordP bs i 4 = ((((0 * 256 % 4294967296 ||| x0) * 256 % 4294967296 ||| x1) * 256 % 4294967296 ||| x2) * 256 % 4294967296 ||| x3) := by
  rw [← e0, ← e1, ← e2, ← e3]
  rfl
theorem byte_cell (bs : List UInt8) (j : Nat) (h : j < bs.length) : (cellsB bs)[j]? = some (.int .u8 ((bs.getD j 0).toNat : Int)) := by
  rw [cellsB_get bs j h, List.getD_eq_getElem?_getD, List.getElem?_eq_getElem h]
  rfl
theorem app_listV {st t : TypeId} {z : Value} {bytes : Nat} (hu : Tryz.prog.underlying st = some (.slice t)) (hinf : (Tryz.prog.info? t).map (fun i => (i.zero, i.size, i.bytes)) = some (some z, 1, bytes)) (hzc : z.cells.size = 1) (hby : bytes ≤ 16)
    (W : World) (B : Nat) (v : Value) (xs ys : List Value) (oa : Option Addr) (cy : Nat) (ho : OwnV t B v xs W) (hy : RdV W oa ys) (h0 : 0 < ys.length) (hxl : xs.length + ys.length ≤ 1000000) (h1u : ∀ u ∈ ys, u.oneCell' = true) (ty : TypeId) :
    ∃ o2 cap w', (Builtin.append_ #[st, st] ty #[v, .slice oa ys.length cy]).run Tryz.prog W = .ok (.slice o2 (xs.length + ys.length) cap) w' ∧ OwnV t B (.slice o2 (xs.length + ys.length) cap) (xs ++ ys) w' ∧ Fr (fun k => B ≤ k) W w' := by
  obtain ⟨i0, hi, hz0, hz1, hz2⟩ := info_parts hinf
  have hge := own_ge ho.1
  obtain ⟨b, o, rfl, hb, hc⟩ := hy.some h0
  obtain ⟨v', w', hrun, h1, h2, h3⟩ := app_own (P := Tryz.prog) (W := W) B st ty t i0 z 1 bytes hu hi hz0 hz1 hz2 hzc (by decide) v xs.length xs ho.1 ⟨b, o, none⟩ ys.length cy ys (by omega) (fun j w hj => by
      rw [show ((⟨b, o, none⟩ : Addr).add j) = ⟨b, o + j, none⟩ from by unfold Addr.add; split <;> simp_all]
      exact hc j w hj) h1u (by unfold maxLen; omega) (by
        have : (xs.length + ys.length) * bytes ≤ (xs.length + ys.length) * 16 := Nat.mul_le_mul_left _ hby
        omega) ho.2
  obtain ⟨o2, cap, rfl⟩ := own_slice h1
  exact ⟨o2, cap, w', hrun, ⟨by rw [List.length_append]; exact h1, Nat.le_trans ho.2 h2.size⟩, h2.mono (fun k hk => hge k hk)⟩
def ConP (w : World) (e : Ending) (w' : World) : Prop := ∃ oa, e = .returned (.slice oa 64 64) ∧ RdV w' oa (w32 shaK) ∧ Below w.heap.size w w'
set_option maxHeartbeats 2000000 in
set_option maxRecDepth 100000 in
theorem refCon_any (w : World) : Calls Tryz.prog 117 #[] w (ConP w) := by
  go_enter Tryz.func117, Tryz.ntmps117
  go_wp2_with fail
  go_ret
  have hb := Blk.new w 144 (w32 shaK)
  refine ⟨some ⟨w.heap.size, 0, none⟩, rfl, .inr ⟨w.heap.size, 0, rfl, by simp, fun j v hj => ?_⟩, (Below.refl _ _).alloc (Nat.le_refl _) _⟩
  rw [Nat.zero_add]
  exact (hb.cell j).trans hj
set_option maxHeartbeats 8000000 in
set_option maxRecDepth 100000 in
theorem refBlock_any (s : S8) (bs : List UInt8) (oh ob : Option Addr) (ch cb : Nat) (w : World) (hs : s.Ok) (hb : bs.length = 64) (hrh : RdV w oh (w32 s.list)) (hrb : RdV w ob (cellsB bs)) :
    Calls Tryz.prog 100 #[.slice oh 8 ch, .slice ob 64 cb] w (BlkP w (w32 (compr s bs).list)) := by
  have HRH := Lib.hid hrh
  have HRB := Lib.hid hrb
  have HBL := Lib.hid hb
  have HSO := Lib.hid hs
  have hcl : (cellsB bs).length = 64 := by rw [cellsB_len, hb]
  have HCL := Lib.hid hcl
  clear hrh hrb hb hs hcl
  go_enter Tryz.func100, Tryz.ntmps100
  go_wp2_with fail
  go_loopw [5, 6] (fun v i wr => ∃ (k : Nat) (oa : Option Addr) (cap : Nat), k ≤ 16 ∧ i = .int .i64 k ∧ v = .slice oa k cap ∧ Hid (OwnV 144 w.heap.size (.slice oa k cap) (w32 (words16 bs k)) wr) ∧ Hid (Below w.heap.size w wr)) (fun _ i _ => 16 - (intOf i).toNat)
  case atStart => exact ⟨0, none, 0, Nat.zero_le _, rfl, rfl, ⟨World.ownsRow_nil _ _ _ _, Nat.le_refl _⟩, Below.refl _ _⟩
  case round =>
    obtain ⟨k, oa, cap, hk, rfl, rfl, HO, HB⟩ := hrel
    by_cases h : k = 16
    · obtain rfl := h
      have q1 : ¬ ((16 : Nat) : Int) < 16 := by omega
      have HS : Hid (OwnV 144 w.heap.size (.slice oa 16 cap) (w32 (schedN bs 0)) wr) := HO
      clear HO hk
      go_wp2_with fail
      clear q1
      go_loopw [5, 7] (fun v i wr => ∃ (k : Nat) (oa : Option Addr) (cap : Nat), 16 ≤ k ∧ k ≤ 64 ∧ i = .int .i64 (k : Int) ∧ v = .slice oa k cap ∧ Hid (OwnV 144 w.heap.size (.slice oa k cap) (w32 (schedN bs (k - 16))) wr) ∧ Hid (Below w.heap.size w wr)) (fun _ i _ => 64 - (intOf i).toNat)
      case atStart => exact ⟨16, oa, cap, Nat.le_refl _, by decide, rfl, rfl, HS, HB⟩
      case round =>
        clear HS HB
        obtain ⟨k, ox, cx, hk1, hk2, rfl, rfl, HO, HB⟩ := hrel
        by_cases hk64 : k = 64
        · obtain rfl := hk64
          have q3 : ¬ ((64 : Nat) : Int) < 64 := by omega
          have HX : Hid (RdV wr ox (w32 (wexp bs))) := HO.out.rd.1
          clear HO hk1 hk2
          go_wp2_with fail
          refine (refCon_any _).mono ?_
          rintro e w1 ⟨okk, rfl, hk1, hbk⟩
          have HX1 := Lib.hid (HX.out.kept hbk)
          have HB1 : Hid (Below w.heap.size w w1) := HB.out.trans (hbk.mono HB.out.size)
          have HK1 := Lib.hid hk1
          obtain ⟨ov, cv, w2, hrun, hown, hfr⟩ := app_listV (st := 145) Tryz.underlying145 inf32 rfl (by decide) w1 w1.heap.size (.slice none 0 0) [] (w32 s.list) oh ch ⟨World.ownsRow_nil _ _ _ _, Nat.le_refl _⟩ (HRH.out.kept HB1.out) (by simp [w32_len, S8.list]) (by simp [w32_len, S8.list]) (by intro u hu; simp only [w32, S8.list, List.map_cons, List.map_nil, List.mem_cons, List.not_mem_nil, or_false] at hu; rcases hu with rfl | rfl | rfl | rfl | rfl | rfl | rfl | rfl <;> rfl) 145
          have hb2 : Below w1.heap.size w1 w2 := hfr.below _ (Nat.le_refl _) (fun k hk => hk)
          have HX2 := Lib.hid (HX1.out.kept hb2)
          have HK2 := Lib.hid (HK1.out.kept hb2)
          have HB2 : Hid (Below w.heap.size w w2) := HB1.out.trans (hb2.mono HB1.out.size)
          have HH2 := Lib.hid (HRH.out.kept HB2.out)
          have HV2 : Hid (RdV w2 ov (w32 s.list)) := hown.rd.1
          change (Builtin.append_ #[_, _] _ #[_, .slice oh 8 ch]).run _ _ = .ok (.slice ov 8 cv) w2 at hrun
          clear hk1 hbk hown hfr HX HX1 HK1 HB HB1 hb2
          go_wp2_with (at_builtin; refine wpList_append_run _ rfl _ _ 145 rfl _ _ _ _ rfl rfl hrun ?_)
          clear hrun q3
          go_loopw [11, 12] (fun v i wr => ∃ (n : Nat) (a b c d e f g h : Nat) (ov : Option Addr) (cv : Nat), n ≤ 64 ∧ i = .int .i64 n ∧ v = .slice ov 8 cv ∧ Hid (rounds s (wexp bs) n = ⟨a, b, c, d, e, f, g, h⟩) ∧ Hid (S8.Ok ⟨a, b, c, d, e, f, g, h⟩) ∧ Hid (RdV wr ov (w32 [a, b, c, d, e, f, g, h])) ∧ Hid (Below w2.heap.size w2 wr)) (fun _ i _ => 64 - (intOf i).toNat)
          case atStart => exact ⟨0, s.a, s.b, s.c, s.d, s.e, s.f, s.g, s.h, ov, cv, Nat.zero_le _, rfl, rfl, rfl, HSO.out, HV2, Below.refl _ _⟩
          case round =>
            clear HV2
            obtain ⟨n, a, b, c, d, e, f, g, h, ov, cv, hn, rfl, rfl, HRD, HOK, HV, HB⟩ := hrel
            by_cases hn64 : n = 64
            · obtain rfl := hn64
              have q4 : ¬ ((64 : Nat) : Int) < 64 := by omega
              have HFI : Hid ((compr s bs).list = (List.range 8).map fun i => add32 (wAt s.list i) (wAt [a, b, c, d, e, f, g, h] i)) := by
                show _ = _
                unfold compr
                rw [HRD.out]
                rfl
              have hsl : s.list.length = 8 := rfl
              have htl : [a, b, c, d, e, f, g, h].length = 8 := rfl
              have HB3 := Lib.hid (HB2.out.trans (HB.out.mono HB2.out.size))
              have HH3 := Lib.hid (HH2.out.kept HB.out)
              clear hn HRD HOK HB HX2 HK2 HH2 HB2
              generalize [a, b, c, d, e, f, g, h] = tl at HFI HV htl
              generalize s.list = sl at HFI HH3 hsl
              obtain ⟨w3, rfl⟩ : ∃ w3 : World, w3 = wr := ⟨_, rfl⟩
              go_wp2_with fail
              clear q4
              go_loopw [17, 18] (fun v i wr => ∃ (k : Nat) (oa : Option Addr) (cap : Nat), k ≤ 8 ∧ i = .int .i64 k ∧ v = .slice oa k cap ∧ Hid (OwnV 144 w3.heap.size (.slice oa k cap) (w32 ((List.range k).map fun i => add32 (wAt sl i) (wAt tl i))) wr) ∧ Hid (Below w3.heap.size w3 wr)) (fun _ i _ => 8 - (intOf i).toNat)
              case atStart => exact ⟨0, none, 0, Nat.zero_le _, rfl, rfl, ⟨World.ownsRow_nil _ _ _ _, Nat.le_refl _⟩, Below.refl _ _⟩
              case round =>
                obtain ⟨k, oz, cz, hk, rfl, rfl, HO, HB⟩ := hrel
                by_cases hk8 : k = 8
                · obtain rfl := hk8
                  have q5 : ¬ ((8 : Nat) : Int) < 8 := by omega
                  have HRR : Hid (RdV wr oz (w32 (compr s bs).list)) := by
                    rw [HFI.out]
                    exact HO.out.rd.1
                  have HBB : Hid (Below w.heap.size w wr) := HB3.out.trans (HB.out.mono HB3.out.size)
                  clear HO HB HFI
                  go_wp2_with fail
                  go_ret
                  exact ⟨oz, cz, rfl, HRR.out, HBB.out⟩
                · have q5 : (k : Int) < 8 := by omega
                  have hk7 : k < 8 := by omega
                  obtain ⟨gb, go, rfl, hgb, hgc⟩ := HH3.out.some (by rw [w32_len]; omega)
                  obtain ⟨vb, vo, rfl, hvb, hvc⟩ := HV.out.some (by rw [w32_len]; omega)
                  have c1 := (HB.out.cell (p := ⟨gb, go + k, none⟩) hgb).trans (hgc k _ (w32_at sl k (by omega)))
                  have c2 := (HB.out.cell (p := ⟨vb, vo + k, none⟩) hvb).trans (hvc k _ (w32_at tl k (by omega)))
                  have HXL : Hid ((w32 ((List.range k).map fun i => add32 (wAt sl i) (wAt tl i))).length = k) := by show _ = _; rw [w32_len]; simp
                  have HWS : Hid (w32 ((List.range k).map fun i => add32 (wAt sl i) (wAt tl i)) ++ [.int .u32 ((add32 (wAt sl k) (wAt tl k) : Nat) : Int)] = w32 ((List.range (k + 1)).map fun i => add32 (wAt sl i) (wAt tl i))) := by
                    show _ = _
                    rw [List.range_succ, List.map_append]
                    simp [w32]
                  have qa := add32_eq (wAt sl k) (wAt tl k)
                  generalize add32 (wAt sl k) (wAt tl k) = z at HWS qa
                  generalize wAt sl k = x1 at c1 qa
                  generalize wAt tl k = x2 at c2 qa
                  have HZ : Hid (IntKind.u32.wrap ((x1 : Int) + (x2 : Int)) = (z : Int)) := by show _ = _; rw [IntKind.wrap_u32]; exact qa
                  have HO3 : Hid (OwnV 144 w3.heap.size (.slice oz k cz) (w32 ((List.range k).map fun i => add32 (wAt sl i) (wAt tl i))) wr.drew) := HO.out.kept (Below.refl _ _).drew
                  have hgr : gb < wr.heap.size := by have := HB.out.size; omega
                  have hvr : vb < wr.heap.size := by have := HB.out.size; omega
                  clear hgc hvc qa HO hk8
                  go_wp2_with fail
                  go_region_held3 (fun W => W.cell? ⟨gb, go + k, none⟩ = some (.int .u32 (x1 : Int)) ∧ W.cell? ⟨vb, vo + k, none⟩ = some (.int .u32 (x2 : Int)))
                    (first | go_keep | exact ⟨(HF.out.cell ⟨gb, go + k, none⟩ hgr (by show ¬ _ ≤ gb; omega)).trans c1, (HF.out.cell ⟨vb, vo + k, none⟩ hvr (by show ¬ _ ≤ vb; omega)).trans c2⟩)
                    ((refine step_appN (st := 145) HXL.out Tryz.underlying145 inf32 rfl (by decide) (by rfl) _ _ (by rfl) (by rfl) (by rfl) HO3 (by omega) (by rfl) ?_; intro oa2 cap2 w5 HO4 HF))
                  rw [HZ.out, HWS.out] at HO4
                  have HB5 : Hid (Below w3.heap.size w3 w5) := HB.out.drew.trans (HF.out.below _ (by have := HB.out.size; show _ ≤ wr.heap.size; omega) (fun k hk => hk))
                  clear HB c1 c2 HF
                  go_wp2_with fail
                  go_roundw
                  case rel => exact ⟨k + 1, oa2, cap2, by omega, by go_num, rfl, HO4, HB5⟩
                  case measure => simp [intOf]; omega
            · have hn1 : n < 64 := by omega
              obtain ⟨la, lb, lc, ld, le, lf, lg, lh⟩ := HOK.out
              dsimp only at la lb lc ld le lf lg lh
              clear hn64
              obtain ⟨r1, hr1⟩ : ∃ r1, rotl e 26 = r1 := ⟨_, rfl⟩
              have lr1 : r1 < 4294967296 := hr1 ▸ rotl_lt e 26 le
              obtain ⟨r2, hr2⟩ : ∃ r2, rotl e 21 = r2 := ⟨_, rfl⟩
              have lr2 : r2 < 4294967296 := hr2 ▸ rotl_lt e 21 le
              obtain ⟨x1, hx1⟩ : ∃ x1, r1 ^^^ r2 = x1 := ⟨_, rfl⟩
              have lx1 : x1 < 4294967296 := hx1 ▸ xor_lt32 lr1 lr2
              have qx1 := u32_xor_nat r1 r2 lr1 lr2
              rw [hx1] at qx1
              obtain ⟨r3, hr3⟩ : ∃ r3, rotl e 7 = r3 := ⟨_, rfl⟩
              have lr3 : r3 < 4294967296 := hr3 ▸ rotl_lt e 7 le
              obtain ⟨x2, hx2⟩ : ∃ x2, x1 ^^^ r3 = x2 := ⟨_, rfl⟩
              have lx2 : x2 < 4294967296 := hx2 ▸ xor_lt32 lx1 lr3
              have qx2 := u32_xor_nat x1 r3 lx1 lr3
              rw [hx2] at qx2
              obtain ⟨t1, ht1⟩ : ∃ t1, add32 h x2 = t1 := ⟨_, rfl⟩
              have lt1 : t1 < 4294967296 := ht1 ▸ add32_lt h x2
              have qt1 := add32_eq h x2
              rw [ht1] at qt1
              obtain ⟨a1, ha1⟩ : ∃ a1, e &&& f = a1 := ⟨_, rfl⟩
              have la1 : a1 < 4294967296 := ha1 ▸ and_lt32 lf
              have qa1 := u32_and_nat e f le lf
              rw [ha1] at qa1
              obtain ⟨ne, hne⟩ : ∃ ne, 4294967295 - e = ne := ⟨_, rfl⟩
              have lne : ne < 4294967296 := by omega
              have qne := not32 e le
              rw [hne] at qne
              obtain ⟨a2, ha2⟩ : ∃ a2, ne &&& g = a2 := ⟨_, rfl⟩
              have la2 : a2 < 4294967296 := ha2 ▸ and_lt32 lg
              have qa2 := u32_and_nat ne g lne lg
              rw [ha2] at qa2
              obtain ⟨x3, hx3⟩ : ∃ x3, a1 ^^^ a2 = x3 := ⟨_, rfl⟩
              have lx3 : x3 < 4294967296 := hx3 ▸ xor_lt32 la1 la2
              have qx3 := u32_xor_nat a1 a2 la1 la2
              rw [hx3] at qx3
              obtain ⟨t2, ht2⟩ : ∃ t2, add32 t1 x3 = t2 := ⟨_, rfl⟩
              have lt2 : t2 < 4294967296 := ht2 ▸ add32_lt t1 x3
              have qt2 := add32_eq t1 x3
              rw [ht2] at qt2
              obtain ⟨kk, hkk⟩ : ∃ kk, kAt n = kk := ⟨_, rfl⟩
              have lkk : kk < 4294967296 := hkk ▸ kAt_lt n
              obtain ⟨wn, hwn⟩ : ∃ wn, wAt (wexp bs) n = wn := ⟨_, rfl⟩
              have lwn : wn < 4294967296 := hwn ▸ wAt_lt (schedN_lt bs 48) n
              obtain ⟨t3, ht3⟩ : ∃ t3, add32 t2 kk = t3 := ⟨_, rfl⟩
              have lt3 : t3 < 4294967296 := ht3 ▸ add32_lt t2 kk
              have qt3 := add32_eq t2 kk
              rw [ht3] at qt3
              obtain ⟨t, ht⟩ : ∃ t, add32 t3 wn = t := ⟨_, rfl⟩
              have lt : t < 4294967296 := ht ▸ add32_lt t3 wn
              have qt := add32_eq t3 wn
              rw [ht] at qt
              obtain ⟨r4, hr4⟩ : ∃ r4, rotl a 30 = r4 := ⟨_, rfl⟩
              have lr4 : r4 < 4294967296 := hr4 ▸ rotl_lt a 30 la
              obtain ⟨r5, hr5⟩ : ∃ r5, rotl a 19 = r5 := ⟨_, rfl⟩
              have lr5 : r5 < 4294967296 := hr5 ▸ rotl_lt a 19 la
              obtain ⟨x4, hx4⟩ : ∃ x4, r4 ^^^ r5 = x4 := ⟨_, rfl⟩
              have lx4 : x4 < 4294967296 := hx4 ▸ xor_lt32 lr4 lr5
              have qx4 := u32_xor_nat r4 r5 lr4 lr5
              rw [hx4] at qx4
              obtain ⟨r6, hr6⟩ : ∃ r6, rotl a 10 = r6 := ⟨_, rfl⟩
              have lr6 : r6 < 4294967296 := hr6 ▸ rotl_lt a 10 la
              obtain ⟨x5, hx5⟩ : ∃ x5, x4 ^^^ r6 = x5 := ⟨_, rfl⟩
              have lx5 : x5 < 4294967296 := hx5 ▸ xor_lt32 lx4 lr6
              have qx5 := u32_xor_nat x4 r6 lx4 lr6
              rw [hx5] at qx5
              obtain ⟨ab, hab⟩ : ∃ ab, a &&& b = ab := ⟨_, rfl⟩
              have lab : ab < 4294967296 := hab ▸ and_lt32 lb
              have qab := u32_and_nat a b la lb
              rw [hab] at qab
              obtain ⟨ac, hac⟩ : ∃ ac, a &&& c = ac := ⟨_, rfl⟩
              have lac : ac < 4294967296 := hac ▸ and_lt32 lc
              have qac := u32_and_nat a c la lc
              rw [hac] at qac
              obtain ⟨x6, hx6⟩ : ∃ x6, ab ^^^ ac = x6 := ⟨_, rfl⟩
              have lx6 : x6 < 4294967296 := hx6 ▸ xor_lt32 lab lac
              have qx6 := u32_xor_nat ab ac lab lac
              rw [hx6] at qx6
              obtain ⟨bc, hbc⟩ : ∃ bc, b &&& c = bc := ⟨_, rfl⟩
              have lbc : bc < 4294967296 := hbc ▸ and_lt32 lc
              have qbc := u32_and_nat b c lb lc
              rw [hbc] at qbc
              obtain ⟨x7, hx7⟩ : ∃ x7, x6 ^^^ bc = x7 := ⟨_, rfl⟩
              have lx7 : x7 < 4294967296 := hx7 ▸ xor_lt32 lx6 lbc
              have qx7 := u32_xor_nat x6 bc lx6 lbc
              rw [hx7] at qx7
              obtain ⟨u, hu⟩ : ∃ u, add32 x5 x7 = u := ⟨_, rfl⟩
              have lu : u < 4294967296 := hu ▸ add32_lt x5 x7
              have qu := add32_eq x5 x7
              rw [hu] at qu
              obtain ⟨e2, he2⟩ : ∃ e2, add32 d t = e2 := ⟨_, rfl⟩
              have le2 : e2 < 4294967296 := he2 ▸ add32_lt d t
              have qe2 := add32_eq d t
              rw [he2] at qe2
              obtain ⟨a3, ha3⟩ : ∃ a3, add32 t u = a3 := ⟨_, rfl⟩
              have la3 : a3 < 4294967296 := ha3 ▸ add32_lt t u
              have qa3 := add32_eq t u
              rw [ha3] at qa3

              have HRN : Hid (rounds s (wexp bs) (n + 1) = ⟨a3, a, b, c, e2, e, f, g⟩) := by
                show _ = _
                have hass : add32 t2 (add32 kk wn) = t := by rw [← ht, ← ht3]; unfold add32; omega
                simp only [rounds, HRD.out, round8, tOf, uOf]
                rw [hr1, hr2, hx1, hr3, hx2, ht1, ha1, hne, ha2, hx3, ht2, hkk, hwn, hass, hr4, hr5, hx4, hr6, hx5, hab, hac, hx6, hbc, hx7, hu, he2, ha3]
              have HR1 : Hid (∀ W, Calls Tryz.prog 116 #[.int .u32 (e : Int), .int .i64 6] W fun e' w' => e' = .returned (.int .u32 (r1 : Int)) ∧ ∃ m, w' = W.drewN m) := fun W => by have := refRot_any e 6 26 W le (by decide) (by decide) rfl; rw [hr1] at this; exact this
              have HR2 : Hid (∀ W, Calls Tryz.prog 116 #[.int .u32 (e : Int), .int .i64 11] W fun e' w' => e' = .returned (.int .u32 (r2 : Int)) ∧ ∃ m, w' = W.drewN m) := fun W => by have := refRot_any e 11 21 W le (by decide) (by decide) rfl; rw [hr2] at this; exact this
              have HR3 : Hid (∀ W, Calls Tryz.prog 116 #[.int .u32 (e : Int), .int .i64 25] W fun e' w' => e' = .returned (.int .u32 (r3 : Int)) ∧ ∃ m, w' = W.drewN m) := fun W => by have := refRot_any e 25 7 W le (by decide) (by decide) rfl; rw [hr3] at this; exact this
              have HR4 : Hid (∀ W, Calls Tryz.prog 116 #[.int .u32 (a : Int), .int .i64 2] W fun e' w' => e' = .returned (.int .u32 (r4 : Int)) ∧ ∃ m, w' = W.drewN m) := fun W => by have := refRot_any a 2 30 W la (by decide) (by decide) rfl; rw [hr4] at this; exact this
              have HR5 : Hid (∀ W, Calls Tryz.prog 116 #[.int .u32 (a : Int), .int .i64 13] W fun e' w' => e' = .returned (.int .u32 (r5 : Int)) ∧ ∃ m, w' = W.drewN m) := fun W => by have := refRot_any a 13 19 W la (by decide) (by decide) rfl; rw [hr5] at this; exact this
              have HR6 : Hid (∀ W, Calls Tryz.prog 116 #[.int .u32 (a : Int), .int .i64 22] W fun e' w' => e' = .returned (.int .u32 (r6 : Int)) ∧ ∃ m, w' = W.drewN m) := fun W => by have := refRot_any a 22 10 W la (by decide) (by decide) rfl; rw [hr6] at this; exact this
              have HW8 : Hid (Lt32 [a3, a, b, c, e2, e, f, g]) := by
                intro x hx
                simp only [List.mem_cons, List.not_mem_nil, or_false] at hx
                rcases hx with rfl | rfl | rfl | rfl | rfl | rfl | rfl | rfl <;> assumption
              obtain ⟨kb, ko, rfl, hkb, hkc⟩ := HK2.out.some (by rw [w32_len]; decide)
              obtain ⟨xb, xo, rfl, hxb, hxc⟩ := HX2.out.some (by rw [w32_len, wexp_len]; decide)
              obtain ⟨vb, vo, rfl, hvb, hvc⟩ := HV.out.some (by simp [w32_len])
              have ckk := (HB.out.cell (p := ⟨kb, ko + n, none⟩) hkb).trans (hkc n _ (w32_at shaK n hn1))
              have cwn := (HB.out.cell (p := ⟨xb, xo + n, none⟩) hxb).trans (hxc n _ (w32_at (wexp bs) n (by rw [wexp_len]; exact hn1)))
              change wr.cell? _ = some (.int .u32 (kAt n : Int)) at ckk
              rw [hkk] at ckk
              rw [hwn] at cwn
              have HVC : Hid (∀ W', Below wr.heap.size wr W' → W'.cell? ⟨vb, vo, none⟩ = some (.int .u32 (a : Int)) ∧ W'.cell? ⟨vb, vo + 1, none⟩ = some (.int .u32 (b : Int)) ∧ W'.cell? ⟨vb, vo + 2, none⟩ = some (.int .u32 (c : Int)) ∧ W'.cell? ⟨vb, vo + 3, none⟩ = some (.int .u32 (d : Int)) ∧ W'.cell? ⟨vb, vo + 4, none⟩ = some (.int .u32 (e : Int)) ∧ W'.cell? ⟨vb, vo + 5, none⟩ = some (.int .u32 (f : Int)) ∧ W'.cell? ⟨vb, vo + 6, none⟩ = some (.int .u32 (g : Int)) ∧ W'.cell? ⟨vb, vo + 7, none⟩ = some (.int .u32 (h : Int))) := fun W' hW => ⟨(hW.cell (p := ⟨vb, vo, none⟩) hvb).trans (hvc 0 _ rfl), (hW.cell (p := ⟨vb, vo + 1, none⟩) hvb).trans (hvc 1 _ rfl), (hW.cell (p := ⟨vb, vo + 2, none⟩) hvb).trans (hvc 2 _ rfl), (hW.cell (p := ⟨vb, vo + 3, none⟩) hvb).trans (hvc 3 _ rfl), (hW.cell (p := ⟨vb, vo + 4, none⟩) hvb).trans (hvc 4 _ rfl), (hW.cell (p := ⟨vb, vo + 5, none⟩) hvb).trans (hvc 5 _ rfl), (hW.cell (p := ⟨vb, vo + 6, none⟩) hvb).trans (hvc 6 _ rfl), (hW.cell (p := ⟨vb, vo + 7, none⟩) hvb).trans (hvc 7 _ rfl)⟩
              obtain ⟨c0, c1, c2, c3, c4, c5, c6, c7⟩ := HVC.out wr (Below.refl _ _)
              clear c1 c2 c3
              have hn64 : (n : Int) < 64 := by omega
              clear hr1 hr2 hx1 hr3 hx2 ht1 ha1 hne ha2 hx3 ht2 hkk hwn ht3 ht hr4 hr5 hx4 hr6 hx5 hab hac hx6 hbc hx7 hu he2 ha3 HRD hkc hxc hvc
              have HOKN : Hid (S8.Ok ⟨a3, a, b, c, e2, e, f, g⟩) := ⟨la3, la, lb, lc, le2, le, lf, lg⟩
              have Q4 := Lib.hid qx4
              have Q5 := Lib.hid qx5
              have QAB := Lib.hid qab
              have QAC := Lib.hid qac
              have Q6 := Lib.hid qx6
              have QBC := Lib.hid qbc
              have Q7 := Lib.hid qx7
              have QU := Lib.hid qu
              have QNE := Lib.hid qne
              have QA2 := Lib.hid qa2
              have QX3 := Lib.hid qx3
              have HT : Hid (((t1 : Int) + (x3 : Int) + (kk : Int) + (wn : Int)) % 4294967296 = (t : Int)) := by show _ = _; omega
              have HA3 : Hid (((t : Int) + ((x5 : Int) + (x7 : Int)) % 4294967296) % 4294967296 = (a3 : Int)) := by show _ = _; omega
              have HE2 : Hid (((d : Int) + (t : Int)) % 4294967296 = (e2 : Int)) := qe2
              clear qx4 qx5 qab qac qx6 qbc qx7 qu qa3 qe2 lr1 lx1 lr2 lr3 lx2 lt1 la1 lne la2 lx3 lt2 lkk lwn lt3 lt lr4 lr5 lx4 lr6 lx5 lab lac lx6 lbc lx7 lu le2 la3 la lb lc ld le lf lg lh hkb hxb
              go_wp2_with fail
              go_quiet ((go_at_call 116; first | with_reducible exact Calls.quiet_of (HR1.out _) | with_reducible exact Calls.quiet_of (HR2.out _) | with_reducible exact Calls.quiet_of (HR3.out _)))
              have HD1 : Hid (Below wr.heap.size wr (wr.drewN nq)) := ⟨rfl, rfl, rfl, Nat.le_refl _, fun _ _ => rfl⟩
              generalize wr.drewN nq = w3 at HD1 ⊢
              clear c0 c4 c5 c6 c7 ckk cwn qx1 qx2 qt1 qa1 qne qa2 qx3 qt2 qt3 qt
              obtain ⟨c0, c1, c2, c3, c4, c5, c6, c7⟩ := HVC.out w3 HD1.out
              clear c0 c3 c4 c5 c6 c7
              have qx4 := Q4.out
              have qx5 := Q5.out
              have qab := QAB.out
              have qac := QAC.out
              have qx6 := Q6.out
              have qbc := QBC.out
              have qx7 := Q7.out
              have qu := QU.out
              go_wp2_with fail
              go_quiet ((go_at_call 116; first | with_reducible exact Calls.quiet_of (HR4.out _) | with_reducible exact Calls.quiet_of (HR5.out _) | with_reducible exact Calls.quiet_of (HR6.out _)))
              have HD2 : Hid (Below wr.heap.size wr (w3.drewN nq)) := HD1.out.trans ⟨rfl, rfl, rfl, Nat.le_refl _, fun _ _ => rfl⟩
              generalize w3.drewN nq = w4 at HD2 ⊢
              clear c1 c2 qx4 qx5 qab qac qx6 qbc qx7 qu
              obtain ⟨c0, c1, c2, c3, c4, c5, c6, c7⟩ := HVC.out w4 HD2.out
              clear c0 c4 c7
              have hvr : vb < w4.heap.size := by have := HD2.out.size; omega
              have HVN : Hid (∀ (x y : Int), x = (a3 : Int) → y = (e2 : Int) → RdV ((w4.alloc (.cells #[.int .u32 x, .int .u32 (a : Int), .int .u32 (b : Int), .int .u32 (c : Int), .int .u32 y, .int .u32 (e : Int), .int .u32 (f : Int), .int .u32 (g : Int)] 144)).drew) (some ⟨w4.heap.size, 0, none⟩) (w32 [a3, a, b, c, e2, e, f, g])) := by
                rintro _ _ rfl rfl
                have hb := Blk.new w4 144 (w32 [a3, a, b, c, e2, e, f, g])
                refine .inr ⟨w4.heap.size, 0, rfl, hb.lt, fun j v hj => ?_⟩
                rw [Nat.zero_add]
                exact (hb.cell j).trans hj
              have HBN : Hid (∀ o, Below w2.heap.size w2 (w4.alloc o).drew) := fun o => ((HB.out.trans (HD2.out.mono HB.out.size)).alloc (Nat.le_trans HB.out.size HD2.out.size) _).drew
              go_wp2_with fail
              go_region_held3 (fun W => W.cell? ⟨vb, vo + 1, none⟩ = some (.int .u32 (b : Int)) ∧ W.cell? ⟨vb, vo + 2, none⟩ = some (.int .u32 (c : Int)) ∧ W.cell? ⟨vb, vo + 3, none⟩ = some (.int .u32 (d : Int)) ∧ W.cell? ⟨vb, vo + 5, none⟩ = some (.int .u32 (f : Int)) ∧ W.cell? ⟨vb, vo + 6, none⟩ = some (.int .u32 (g : Int)))
                (first | go_keep)
                (fail)
              clear c1 c2 c3 c5 c6
              go_wp2_with fail
              go_roundw
              case rel => exact ⟨n + 1, a3, a, b, c, e2, e, f, g, _, _, by omega, by go_num, rfl, HRN, HOKN, HVN.out _ _ (by rw [QNE.out, QA2.out, QX3.out, HT.out]; exact HA3.out) (by rw [QNE.out, QA2.out, QX3.out, HT.out]; exact HE2.out), HBN.out _⟩
              case measure => simp [intOf]; omega
        · have q2 : (k : Int) < 64 := by omega
          have hln := schedN_len bs (k - 16)
          have hlt := schedN_lt bs (k - 16)
          have hnx : schedN bs (k + 1 - 16) = schedN bs (k - 16) ++ [nextW (schedN bs (k - 16))] := by
            rw [show k + 1 - 16 = (k - 16) + 1 by omega]
            rfl
          obtain ⟨ws, hws⟩ : ∃ ws, schedN bs (k - 16) = ws := ⟨_, rfl⟩
          rw [hws] at hln hlt hnx HO
          rw [show 16 + (k - 16) = k by omega] at hln
          have hxl : (w32 ws).length = k := by rw [w32_len, hln]
          obtain ⟨xb, xo, rfl, hxb, hcel⟩ := HO.out.rd.1.some (by rw [hxl]; omega)
          obtain ⟨ip, hip⟩ : ∃ i, k - 15 = i := ⟨_, rfl⟩
          obtain ⟨iq, hiq⟩ : ∃ i, k - 2 = i := ⟨_, rfl⟩
          obtain ⟨ia, hia⟩ : ∃ i, k - 16 = i := ⟨_, rfl⟩
          obtain ⟨ib, hib⟩ : ∃ i, k - 7 = i := ⟨_, rfl⟩
          have cel : ∀ W', Below wr.heap.size wr W' → ∀ j, j < k → W'.cell? ⟨xb, xo + j, none⟩ = some (.int .u32 (wAt ws j : Nat)) := fun W' hW j hj => (hW.cell (p := ⟨xb, xo + j, none⟩) hxb).trans (hcel j _ (w32_at ws j (by omega)))
          obtain ⟨p, hp⟩ : ∃ p, wAt ws ip = p := ⟨_, rfl⟩
          obtain ⟨q, hq⟩ : ∃ q, wAt ws iq = q := ⟨_, rfl⟩
          obtain ⟨a, ha⟩ : ∃ a, wAt ws ia = a := ⟨_, rfl⟩
          obtain ⟨b, hb⟩ : ∃ b, wAt ws ib = b := ⟨_, rfl⟩
          have lp : p < 4294967296 := hp ▸ wAt_lt hlt _
          have lq : q < 4294967296 := hq ▸ wAt_lt hlt _
          have la : a < 4294967296 := ha ▸ wAt_lt hlt _
          have lb : b < 4294967296 := hb ▸ wAt_lt hlt _
          have HC : Hid (∀ W', Below wr.heap.size wr W' → W'.cell? ⟨xb, xo + ip, none⟩ = some (.int .u32 (p : Int)) ∧ W'.cell? ⟨xb, xo + iq, none⟩ = some (.int .u32 (q : Int)) ∧ W'.cell? ⟨xb, xo + ia, none⟩ = some (.int .u32 (a : Int)) ∧ W'.cell? ⟨xb, xo + ib, none⟩ = some (.int .u32 (b : Int))) := fun W' hW => by
            refine ⟨?_, ?_, ?_, ?_⟩
            · rw [← hp]; exact cel W' hW ip (by omega)
            · rw [← hq]; exact cel W' hW iq (by omega)
            · rw [← ha]; exact cel W' hW ia (by omega)
            · rw [← hb]; exact cel W' hW ib (by omega)
          have HIA : Hid ((w32 ws)[ia]? = some (.int .u32 (a : Int))) := by show _ = _; rw [← ha]; exact w32_at ws ia (by omega)
          have HIB : Hid ((w32 ws)[ib]? = some (.int .u32 (b : Int))) := by show _ = _; rw [← hb]; exact w32_at ws ib (by omega)
          have hnw : nextW ws = add32 (add32 (add32 a (sig0 p)) b) (sig1 q) := by
            unfold nextW
            rw [hln, hip, hiq, hia, hib, hp, hq, ha, hb]
          obtain ⟨r1, hr1⟩ : ∃ r1, rotl p 25 = r1 := ⟨_, rfl⟩
          obtain ⟨r2, hr2⟩ : ∃ r2, rotl p 14 = r2 := ⟨_, rfl⟩
          obtain ⟨r3, hr3⟩ : ∃ r3, rotl q 15 = r3 := ⟨_, rfl⟩
          obtain ⟨r4, hr4⟩ : ∃ r4, rotl q 13 = r4 := ⟨_, rfl⟩
          have l1 : r1 < 4294967296 := hr1 ▸ rotl_lt p 25 lp
          have l2 : r2 < 4294967296 := hr2 ▸ rotl_lt p 14 lp
          have l3 : r3 < 4294967296 := hr3 ▸ rotl_lt q 15 lq
          have l4 : r4 < 4294967296 := hr4 ▸ rotl_lt q 13 lq
          have x1 := u32_xor_nat r1 r2 l1 l2
          have x2 := u32_xor_nat (r1 ^^^ r2) (p / 8) (xor_lt32 l1 l2) (by omega)
          have y1 := u32_xor_nat r3 r4 l3 l4
          have y2 := u32_xor_nat (r3 ^^^ r4) (q / 1024) (xor_lt32 l3 l4) (by omega)
          obtain ⟨m1, hm1⟩ : ∃ m1, r1 ^^^ r2 = m1 := ⟨_, rfl⟩
          obtain ⟨m2, hm2⟩ : ∃ m2, r3 ^^^ r4 = m2 := ⟨_, rfl⟩
          have hs0 : sig0 p = m1 ^^^ p / 8 := by unfold sig0; rw [hr1, hr2, hm1]
          have hs1 : sig1 q = m2 ^^^ q / 1024 := by unfold sig1; rw [hr3, hr4, hm2]
          rw [hm1] at x1 x2
          rw [hm2] at y1 y2
          rw [← hs0] at x2
          rw [← hs1] at y2
          have ls0 : sig0 p < 4294967296 := by rw [hs0, ← hm1]; exact xor_lt32 (xor_lt32 l1 l2) (by omega)
          have ls1 : sig1 q < 4294967296 := by rw [hs1, ← hm2]; exact xor_lt32 (xor_lt32 l3 l4) (by omega)
          clear hs0 hs1
          obtain ⟨s0, h0⟩ : ∃ s0, sig0 p = s0 := ⟨_, rfl⟩
          obtain ⟨s1, h1⟩ : ∃ s1, sig1 q = s1 := ⟨_, rfl⟩
          rw [h0] at x2 ls0 hnw
          rw [h1] at y2 ls1 hnw
          rw [show ((p / 8 : Nat) : Int) = (p : Int) / 8 from by omega] at x2
          rw [show ((q / 1024 : Nat) : Int) = (q : Int) / 1024 from by omega] at y2
          have HR1 : Hid (∀ W, Calls Tryz.prog 116 #[.int .u32 (p : Int), .int .i64 7] W fun e w' => e = .returned (.int .u32 (r1 : Int)) ∧ ∃ m, w' = W.drewN m) := fun W => by have := refRot_any p 7 25 W lp (by decide) (by decide) rfl; rw [hr1] at this; exact this
          have HR2 : Hid (∀ W, Calls Tryz.prog 116 #[.int .u32 (p : Int), .int .i64 18] W fun e w' => e = .returned (.int .u32 (r2 : Int)) ∧ ∃ m, w' = W.drewN m) := fun W => by have := refRot_any p 18 14 W lp (by decide) (by decide) rfl; rw [hr2] at this; exact this
          have HR3 : Hid (∀ W, Calls Tryz.prog 116 #[.int .u32 (q : Int), .int .i64 17] W fun e w' => e = .returned (.int .u32 (r3 : Int)) ∧ ∃ m, w' = W.drewN m) := fun W => by have := refRot_any q 17 15 W lq (by decide) (by decide) rfl; rw [hr3] at this; exact this
          have HR4 : Hid (∀ W, Calls Tryz.prog 116 #[.int .u32 (q : Int), .int .i64 19] W fun e w' => e = .returned (.int .u32 (r4 : Int)) ∧ ∃ m, w' = W.drewN m) := fun W => by have := refRot_any q 19 13 W lq (by decide) (by decide) rfl; rw [hr4] at this; exact this
          have HZ : Hid (IntKind.u32.wrap (IntKind.u32.wrap (IntKind.u32.wrap ((a : Int) + (s0 : Int)) + (b : Int)) + (s1 : Int)) = ((nextW ws : Nat) : Int)) := by
            show _ = _
            rw [hnw, IntKind.wrap_u32, IntKind.wrap_u32, IntKind.wrap_u32]
            unfold add32
            omega
          have HWS : Hid (w32 ws ++ [.int .u32 ((nextW ws : Nat) : Int)] = w32 (schedN bs (k + 1 - 16))) := by
            show _ = _
            rw [hnx]
            simp [w32]
          have j1 : IntKind.i64.wrap ((k : Int) - 15) = (ip : Int) := by rw [IntWalk.i64_in _ (by omega)]; omega
          have j2 : IntKind.i64.wrap ((k : Int) - 2) = (iq : Int) := by rw [IntWalk.i64_in _ (by omega)]; omega
          have j3 : IntKind.i64.wrap ((k : Int) - 16) = (ia : Int) := by rw [IntWalk.i64_in _ (by omega)]; omega
          have j4 : IntKind.i64.wrap ((k : Int) - 7) = (ib : Int) := by rw [IntWalk.i64_in _ (by omega)]; omega
          have k1 : (ip : Int) < (k : Int) := by omega
          have k2 : (iq : Int) < (k : Int) := by omega
          have k3 : (ia : Int) < (k : Int) := by omega
          have k4 : (ib : Int) < (k : Int) := by omega
          have Y1 := Lib.hid y1
          have Y2 := Lib.hid y2
          have J3 := Lib.hid j3
          have J4 := Lib.hid j4
          have K3 := Lib.hid k3
          have K4 := Lib.hid k4
          have HXL := Lib.hid hxl
          clear hws hlt hnx cel hcel hp hq ha hb hnw hr1 hr2 hr3 hr4 hm1 hm2 h0 h1 hk64 hln y1 y2 j3 j4 k3 k4 hip hiq hia hib l1 l2 l3 l4 ls0 ls1 hxl
          obtain ⟨cp, cq, ca, cb⟩ := HC.out wr (Below.refl _ _)
          clear ca cb cq
          go_wp2_with fail
          go_quiet ((go_at_call 116; first | with_reducible exact Calls.quiet_of (HR1.out _) | with_reducible exact Calls.quiet_of (HR2.out _)))
          have HD1 : Hid (Below wr.heap.size wr (wr.drewN nq)) := ⟨rfl, rfl, rfl, Nat.le_refl _, fun _ _ => rfl⟩
          have HO1 := Lib.hid (HO.out.kept HD1.out)
          generalize wr.drewN nq = w1 at HD1 HO1 ⊢
          clear cp x1 x2 j1 k1
          obtain ⟨cp, cq, ca, cb⟩ := HC.out w1 HD1.out
          clear cp ca cb
          have y1 := Y1.out
          have y2 := Y2.out
          go_wp2_with fail
          go_quiet ((go_at_call 116; first | with_reducible exact Calls.quiet_of (HR3.out _) | with_reducible exact Calls.quiet_of (HR4.out _)))
          have HD2 : Hid (Below wr.heap.size wr (w1.drewN nq)) := HD1.out.trans ⟨rfl, rfl, rfl, Nat.le_refl _, fun _ _ => rfl⟩
          have HO2 : Hid (OwnV 144 w.heap.size (.slice (some ⟨xb, xo, none⟩) k cx) (w32 ws) (w1.drewN nq)) := HO1.out.kept ⟨rfl, rfl, rfl, Nat.le_refl _, fun _ _ => rfl⟩
          generalize w1.drewN nq = w2 at HD2 HO2 ⊢
          clear cq y1 y2 j2 k2
          obtain ⟨cp, cq, ca, cb⟩ := HC.out w2 HD2.out
          clear cp cq HO1 HO
          have j3 := J3.out
          have j4 := J4.out
          have k3 := K3.out
          have k4 := K4.out
          have HO3 : Hid (OwnV 144 w.heap.size (.slice (some ⟨xb, xo, none⟩) k cx) (w32 ws) w2.drew) := HO2.out.kept (Below.refl _ _).drew
          go_wp2_with fail
          go_region_held3 (fun W => W.cell? ⟨xb, xo + ia, none⟩ = some (.int .u32 (a : Int)) ∧ W.cell? ⟨xb, xo + ib, none⟩ = some (.int .u32 (b : Int)))
            (first | go_keep | exact ⟨HKK.out ia _ HIA.out, HKK.out ib _ HIB.out⟩)
            ((refine step_appK (st := 145) HXL.out Tryz.underlying145 inf32 rfl (by decide) (by rfl) _ _ (by rfl) (by rfl) (by rfl) HO3 (by omega) (by rfl) ?_; intro oa2 cap2 w3 HO4 HF HKK))
          rw [HZ.out, HWS.out] at HO4
          have HB2 : Hid (Below w.heap.size w w3) := (HB.out.trans (HD2.out.mono HB.out.size)).drew.trans (HF.out.below _ (by have := HB.out.size; have := HD2.out.size; show _ ≤ w2.heap.size; omega) (fun k hk => hk))
          clear HB ca cb HF HKK j3 j4 k3 k4
          go_wp2_with fail
          go_roundw
          case rel => exact ⟨k + 1, oa2, cap2, by omega, by omega, by go_num, rfl, HO4, HB2⟩
          case measure => simp [intOf]; omega
    · have q1 : (k : Int) < 16 := by omega
      obtain ⟨bb, bo, rfl, hbw, hbc⟩ := HRB.out.some (by rw [HCL.out]; decide)
      have hbl : bb < wr.heap.size := by have := HB.out.size; omega
      obtain ⟨q0, hq0⟩ : ∃ q, 4 * k = q := ⟨_, rfl⟩
      obtain ⟨qa, hqa⟩ : ∃ q, q0 + 1 = q := ⟨_, rfl⟩
      obtain ⟨qb, hqb⟩ : ∃ q, q0 + 2 = q := ⟨_, rfl⟩
      obtain ⟨qc, hqc⟩ : ∃ q, q0 + 3 = q := ⟨_, rfl⟩
      have c0 := (HB.out.cell (p := ⟨bb, bo + q0, none⟩) hbw).trans (hbc q0 _ (byte_cell bs q0 (by rw [HBL.out]; omega)))
      have c1 := (HB.out.cell (p := ⟨bb, bo + qa, none⟩) hbw).trans (hbc qa _ (byte_cell bs qa (by rw [HBL.out]; omega)))
      have c2 := (HB.out.cell (p := ⟨bb, bo + qb, none⟩) hbw).trans (hbc qb _ (byte_cell bs qb (by rw [HBL.out]; omega)))
      have c3 := (HB.out.cell (p := ⟨bb, bo + qc, none⟩) hbw).trans (hbc qc _ (byte_cell bs qc (by rw [HBL.out]; omega)))
      obtain ⟨x0, hx0⟩ : ∃ x, (bs.getD q0 0).toNat = x := ⟨_, rfl⟩
      obtain ⟨x1, hx1⟩ : ∃ x, (bs.getD qa 0).toNat = x := ⟨_, rfl⟩
      obtain ⟨x2, hx2⟩ : ∃ x, (bs.getD qb 0).toNat = x := ⟨_, rfl⟩
      obtain ⟨x3, hx3⟩ : ∃ x, (bs.getD qc 0).toNat = x := ⟨_, rfl⟩
      have b0 : x0 < 256 := by rw [← hx0]; exact (bs.getD q0 0).toNat_lt
      have b1 : x1 < 256 := by rw [← hx1]; exact (bs.getD qa 0).toNat_lt
      have b2 : x2 < 256 := by rw [← hx2]; exact (bs.getD qb 0).toNat_lt
      have b3 : x3 < 256 := by rw [← hx3]; exact (bs.getD qc 0).toNat_lt
      rw [hx0] at c0
      rw [hx1] at c1
      rw [hx2] at c2
      rw [hx3] at c3
      have hwp := wordP_four bs k x0 x1 x2 x3 (by rw [hq0]; exact hx0) (by rw [hq0, hqa]; exact hx1) (by rw [hq0, hqb]; exact hx2) (by rw [hq0, hqc]; exact hx3)
      rw [← word_or x0 x1 x2 x3 b0 b1 b2 b3] at hwp
      obtain ⟨y0, hy0⟩ : ∃ y, x0 * 16777216 = y := ⟨_, rfl⟩
      obtain ⟨y1, hy1⟩ : ∃ y, x1 * 65536 = y := ⟨_, rfl⟩
      obtain ⟨y2, hy2⟩ : ∃ y, x2 * 256 = y := ⟨_, rfl⟩
      rw [hy0, hy1, hy2] at hwp
      have ly0 : y0 < 4294967296 := by omega
      have ly1 : y1 < 4294967296 := by omega
      have ly2 : y2 < 4294967296 := by omega
      have lx3 : x3 < 4294967296 := by omega
      obtain ⟨z1, hz1⟩ : ∃ z, y0 ||| y1 = z := ⟨_, rfl⟩
      have lz1 : z1 < 4294967296 := hz1 ▸ or_lt32 ly0 ly1
      obtain ⟨z2, hz2⟩ : ∃ z, z1 ||| y2 = z := ⟨_, rfl⟩
      have lz2 : z2 < 4294967296 := hz2 ▸ or_lt32 lz1 ly2
      obtain ⟨z3, hz3⟩ : ∃ z, z2 ||| x3 = z := ⟨_, rfl⟩
      rw [hz1, hz2, hz3] at hwp
      have v0 : IntKind.u32.wrap (x0 : Int) = (x0 : Int) := IntWalk.u32_in _ (by omega)
      have v1 : IntKind.u32.wrap (x1 : Int) = (x1 : Int) := IntWalk.u32_in _ (by omega)
      have v2 : IntKind.u32.wrap (x2 : Int) = (x2 : Int) := IntWalk.u32_in _ (by omega)
      have v3 : IntKind.u32.wrap (x3 : Int) = (x3 : Int) := IntWalk.u32_in _ (by omega)
      have u0 : IntKind.u32.wrap ((x0 : Int) * 16777216) = (y0 : Int) := by rw [IntWalk.u32_in _ (by omega)]; omega
      have u1 : IntKind.u32.wrap ((x1 : Int) * 65536) = (y1 : Int) := by rw [IntWalk.u32_in _ (by omega)]; omega
      have u2 : IntKind.u32.wrap ((x2 : Int) * 256) = (y2 : Int) := by rw [IntWalk.u32_in _ (by omega)]; omega
      have o1 : bits BinOp.or IntKind.u32 (y0 : Int) (y1 : Int) = (z1 : Int) := by rw [u32_or_nat _ _ ly0 ly1, hz1]
      have o2 : bits BinOp.or IntKind.u32 (z1 : Int) (y2 : Int) = (z2 : Int) := by rw [u32_or_nat _ _ lz1 ly2, hz2]
      have o3 : bits BinOp.or IntKind.u32 (z2 : Int) (x3 : Int) = (z3 : Int) := by rw [u32_or_nat _ _ lz2 lx3, hz3]
      have f0 : IntKind.i64.wrap (4 * (k : Int)) = (q0 : Int) := by rw [IntWalk.i64_in _ (by omega)]; omega
      have f1 : IntKind.i64.wrap ((q0 : Int) + 1) = (qa : Int) := by rw [IntWalk.i64_in _ (by omega)]; omega
      have f2 : IntKind.i64.wrap ((q0 : Int) + 2) = (qb : Int) := by rw [IntWalk.i64_in _ (by omega)]; omega
      have f3 : IntKind.i64.wrap ((q0 : Int) + 3) = (qc : Int) := by rw [IntWalk.i64_in _ (by omega)]; omega
      have g0 : (q0 : Int) < 64 := by omega
      have g1 : (qa : Int) < 64 := by omega
      have g2 : (qb : Int) < 64 := by omega
      have g3 : (qc : Int) < 64 := by omega
      have n0 : q0 < 64 := by omega
      have n1 : qa < 64 := by omega
      have n2 : qb < 64 := by omega
      have n3 : qc < 64 := by omega
      have HZ : Hid (bits BinOp.or IntKind.u32 (bits BinOp.or IntKind.u32 (bits BinOp.or IntKind.u32 (IntKind.u32.wrap (IntKind.u32.wrap (x0 : Int) * 16777216)) (IntKind.u32.wrap (IntKind.u32.wrap (x1 : Int) * 65536))) (IntKind.u32.wrap (IntKind.u32.wrap (x2 : Int) * 256))) (IntKind.u32.wrap (x3 : Int)) = (z3 : Int)) := by
        show _ = _
        rw [v0, v1, v2, v3, u0, u1, u2, o1, o2, o3]
      have HOD : Hid (OwnV 144 w.heap.size (.slice oa k cap) (w32 (words16 bs k)) wr.drew) := HO.out.kept (Below.refl _ _).drew
      have hxl : (w32 (words16 bs k)).length = k := by rw [w32_len, words16_len]
      have HWS : Hid (w32 (words16 bs k) ++ [.int .u32 (z3 : Int)] = w32 (words16 bs (k + 1))) := by
        show _ = _
        rw [words16_succ, hwp]
        simp [w32]
      clear hq0 hqa hqb hqc hx0 hx1 hx2 hx3 hwp hbc hy0 hy1 hy2 hz1 hz2 hz3 HO h v0 v1 v2 v3 u0 u1 u2 o1 o2 o3 ly0 ly1 ly2 lx3 lz1 lz2 b0 b1 b2 b3 n0 n1 n2 n3
      go_wp2_with fail
      go_region_held3 (fun W => W.cell? ⟨bb, bo + q0, none⟩ = some (.int .u8 (x0 : Int)) ∧ W.cell? ⟨bb, bo + qa, none⟩ = some (.int .u8 (x1 : Int)) ∧ W.cell? ⟨bb, bo + qb, none⟩ = some (.int .u8 (x2 : Int)) ∧ W.cell? ⟨bb, bo + qc, none⟩ = some (.int .u8 (x3 : Int)))
        (first | go_keep | exact ⟨(HF.out.cell ⟨bb, bo + q0, none⟩ hbl (by show ¬ _ ≤ bb; omega)).trans c0, (HF.out.cell ⟨bb, bo + qa, none⟩ hbl (by show ¬ _ ≤ bb; omega)).trans c1, (HF.out.cell ⟨bb, bo + qb, none⟩ hbl (by show ¬ _ ≤ bb; omega)).trans c2, (HF.out.cell ⟨bb, bo + qc, none⟩ hbl (by show ¬ _ ≤ bb; omega)).trans c3⟩)
        ((refine step_appN (st := 145) hxl Tryz.underlying145 inf32 rfl (by decide) (by rfl) _ _ (by rfl) (by rfl) (by rfl) HOD (by omega) (by rfl) ?_; intro oa2 cap2 w3 HO2 HF))
      rw [HZ.out, HWS.out] at HO2
      have HB2 : Hid (Below w.heap.size w w3) := HB.out.drew.trans (HF.out.below _ (by have := HB.out.size; show _ ≤ wr.heap.size; omega) (fun k hk => hk))
      clear HB c0 c1 c2 c3 HF
      go_wp2_with fail
      go_roundw
      case rel => exact ⟨k + 1, oa2, cap2, by omega, by go_num, rfl, HO2, HB2⟩
      case measure => simp [intOf]; omega
end Go.Proofs.YtfpcdlpfmlaakaaGreatDoor
namespace Go.Proofs.YtfpcdlpfmlaakaaGreatDoor
open Go.RowKit Onair
attribute [local go_sem ↓] Go.wp_at_zero Go.wp_at_succ
theorem step_appL {st t : TypeId} {z : Value} {bytes : Nat} {ops : Array Oper} {o : Oper} {a : Act} {K : Act → World → Prop} {Q : Exit → Act → World → Prop} {E : Prop} {B : Nat} {v : Value} {xs : List Value} {W : World} {n m : Nat} {cs : Array Value} (hn : xs.length = n) (us : List Value) (hcs : cs = us.toArray) (hm : us.length = m) (h0 : 0 < m)
    (hu : Tryz.prog.underlying st = some (.slice t)) (hinf : (Tryz.prog.info? t).map (fun i => (i.zero, i.size, i.bytes)) = some (some z, 1, bytes)) (hzc : z.cells.size = 1) (hby : bytes ≤ 16) (hgd : o.guard = none) (s x : Operand)
    (ho : o.op = .call { callee := .builtin .append, args := #[s, x], argTypes := #[st, st] }) (hs : a.eval s = v) (hx : a.eval x = .slice (some ⟨W.heap.size, 0, none⟩) m m)
    (h : Hid (OwnV t B v xs W)) (hl : n + m ≤ 1000000) (h1u : ∀ u ∈ us, u.oneCell' = true)
    (hK : ∀ oa cap w', Hid (OwnV t B (.slice oa (n + m) cap) (xs ++ us) w') → Hid (Fr (fun k => B ≤ k) W w') → K (a.put o.dst (.slice oa (n + m) cap)) w') :
    if Region.wanted o (yielded ops a.tmps) = true then Oper.wp Tryz.prog o a (W.alloc (.cells cs t)) K Q else E := by
  subst hcs hn hm
  have hw : Region.wanted o (yielded ops a.tmps) = true := by simp [Region.wanted, hgd]
  rw [if_pos hw]
  have hb : Below W.heap.size W (W.alloc (.cells us.toArray t)) := (Below.refl _ _).alloc (Nat.le_refl _) _
  have hnew := Blk.new W t us
  have hy : RdV (W.alloc (.cells us.toArray t)) (some ⟨W.heap.size, 0, none⟩) us := .inr ⟨W.heap.size, 0, rfl, hnew.lt, fun j v hj => by
    rw [Nat.zero_add]
    exact (hnew.cell j).trans hj⟩
  obtain ⟨oa, cap, w', hrun, h2, h3⟩ := app_listV hu hinf hzc hby (W.alloc (.cells us.toArray t)) B v xs us (some ⟨W.heap.size, 0, none⟩) us.length (h.out.kept hb) hy h0 hl h1u o.type
  have h4 : Fr (fun k => B ≤ k) W w' := ((Fr.refl _ W).alloc _).trans h3 (fun _ _ h => h)
  unfold Oper.wp
  simp [execOp, ho, resolve, invoke, builtin, hs, hx, hrun, Result.andThen]
  exact hK oa cap w' h2 h4
theorem rd_conv (W : World) (oa : Option Addr) (l : List UInt8) (n cap : Nat) (hn : l.length = n) (h0 : 0 < n) (h : RdV W oa (cellsB l)) : (convert 42 9 (.slice oa n cap)).run Tryz.prog W = .ok (.string ⟨l.toArray⟩) W := by
  subst hn
  obtain ⟨b, o, rfl, _, hc⟩ := h.some (by rw [cellsB_len]; exact h0)
  exact run_convert_bytes_back (P := Tryz.prog) W 42 9 5 ⟨b, o, none⟩ cap l Tryz.underlying42 Tryz.underlying5 Tryz.underlying9 (fun j hj => by
    rw [show ((⟨b, o, none⟩ : Addr).add j) = ⟨b, o + j, none⟩ from by unfold Addr.add; split <;> simp_all]
    exact hc j _ (cellsB_get l j hj))
theorem outL4 (ws : List Nat) (k : Nat) : outL ws (4 * (k + 1)) = outL ws (4 * k) ++ [UInt8.ofNat (wAt ws k / 16777216), UInt8.ofNat (wAt ws k / 65536), UInt8.ofNat (wAt ws k / 256), UInt8.ofNat (wAt ws k)] := by
  have e0 : outB ws (4 * k) = UInt8.ofNat (wAt ws k / 16777216) := by unfold outB; rw [show 4 * k / 4 = k by omega, show 4 * k % 4 = 0 by omega]
  have e1 : outB ws (4 * k + 1) = UInt8.ofNat (wAt ws k / 65536) := by unfold outB; rw [show (4 * k + 1) / 4 = k by omega, show (4 * k + 1) % 4 = 1 by omega]
  have e2 : outB ws (4 * k + 1 + 1) = UInt8.ofNat (wAt ws k / 256) := by unfold outB; rw [show (4 * k + 1 + 1) / 4 = k by omega, show (4 * k + 1 + 1) % 4 = 2 by omega]
  have e3 : outB ws (4 * k + 1 + 1 + 1) = UInt8.ofNat (wAt ws k) := by
    unfold outB
    rw [show (4 * k + 1 + 1 + 1) / 4 = k by omega, show (4 * k + 1 + 1 + 1) % 4 = 3 by omega]
    rw [show 2 ^ (24 - 8 * 3) = 1 from rfl, Nat.div_one]
  unfold outL
  rw [show 4 * (k + 1) = 4 * k + 1 + 1 + 1 + 1 by omega, List.range_succ, List.range_succ, List.range_succ, List.range_succ]
  simp [e0, e1, e2, e3]
theorem byteI (x : Nat) : ((UInt8.ofNat x).toNat : Int) = (x : Int) % 256 := by
  rw [UInt8.toNat_ofNat']
  omega
theorem blk_rd {W : World} {bb bo q k : Nat} {L : List UInt8} (hlt : bb < W.heap.size) (hq : q = k * 64) (h : ∀ (j : Nat) v, (cellsB (padL L))[j]? = some v → W.cell? ⟨bb, bo + j, none⟩ = some v) : RdV W (some ⟨bb, bo + q, none⟩) (cellsB (blkAt L k)) := by
  refine .inr ⟨bb, bo + q, rfl, hlt, fun j v hj => ?_⟩
  unfold blkAt at hj
  rw [cellsB_take, cellsB_drop, List.getElem?_take] at hj
  split at hj
  · rw [List.getElem?_drop] at hj
    rw [show bo + q + j = bo + (k * 64 + j) by omega]
    exact h _ _ hj
  · cases hj
set_option maxHeartbeats 8000000 in
set_option maxRecDepth 100000 in
theorem refSum_any (s : ByteArray) (w : World) (hs : s.size ≤ 140737488351232) :
    Calls Tryz.prog 71 #[.string s] w fun e w' => e = .returned (.string (shaB s)) ∧ Below w.heap.size w w' := by
  obtain ⟨L, hL⟩ : ∃ L, s.data.toList = L := ⟨_, rfl⟩
  have hEX := fun W => refExt_any s W hs
  have hSH : shaB s = ⟨(shaL L).toArray⟩ := by unfold shaB; rw [hL]
  have hLs : L.length = s.size := by rw [← hL]; exact blen s
  rw [hL] at hEX
  have hN : (padL L).length = nBlk L * 64 := padL_len L
  have hnb : nBlk L ≤ 2300000000000 := by unfold nBlk; split <;> omega
  have hnb0 : 0 < nBlk L := by unfold nBlk; omega
  obtain ⟨N, hNN⟩ : ∃ N, (padL L).length = N := ⟨_, rfl⟩
  rw [hNN] at hN
  have HEX := Lib.hid hEX
  have HSH := Lib.hid hSH
  have HNN := Lib.hid hNN
  obtain ⟨nb, hnbe⟩ : ∃ nb, nBlk L = nb := ⟨_, rfl⟩
  rw [hnbe] at hN hnb hnb0
  have HNB := Lib.hid hnbe
  have hN2 : N ≤ 140800000000000000 := by omega
  have HN := Lib.hid hN
  clear hEX hSH hNN hL hLs hnbe hN
  go_enter Tryz.func71, Tryz.ntmps71
  go_wp2_with fail
  have HR0 : Hid (RdV (w.alloc (.cells #[.int .u32 1779033703, .int .u32 3144134277, .int .u32 1013904242, .int .u32 2773480762, .int .u32 1359893119, .int .u32 2600822924, .int .u32 528734635, .int .u32 1541459225] 144)) (some ⟨w.heap.size, 0, none⟩) (w32 (shaS L 0).list)) := by
    have hb := Blk.new w 144 (w32 s8init.list)
    refine .inr ⟨w.heap.size, 0, rfl, hb.lt, fun j v hj => ?_⟩
    rw [Nat.zero_add]
    exact (hb.cell j).trans hj
  have HB0 : Hid (Below w.heap.size w (w.alloc (.cells #[.int .u32 1779033703, .int .u32 3144134277, .int .u32 1013904242, .int .u32 2773480762, .int .u32 1359893119, .int .u32 2600822924, .int .u32 528734635, .int .u32 1541459225] 144))) := (Below.refl _ _).alloc (Nat.le_refl _) _
  generalize w.alloc (.cells #[.int .u32 1779033703, .int .u32 3144134277, .int .u32 1013904242, .int .u32 2773480762, .int .u32 1359893119, .int .u32 2600822924, .int .u32 528734635, .int .u32 1541459225] 144) = w1 at HR0 HB0 ⊢
  refine (HEX.out w1).mono ?_
  rintro e w2 ⟨ob, cb, rfl, hown, hb2⟩
  rw [HNN.out] at hown ⊢
  obtain ⟨hrb, hln, hcap, hcm⟩ := hown.rd
  have HRB := Lib.hid hrb
  have HR2 := Lib.hid (HR0.out.kept hb2)
  have HB2 : Hid (Below w.heap.size w w2) := HB0.out.trans (hb2.mono HB0.out.size)
  generalize (some ⟨w.heap.size, 0, none⟩ : Option Addr) = oh0 at HR2 ⊢
  clear HR0 HB0 hown hb2 hrb hln
  go_wp2_with fail
  go_loopw [3, 5] (fun v i wr => ∃ (k q : Nat) (oh : Option Addr) (ch : Nat), k ≤ nb ∧ q = k * 64 ∧ i = .int .i64 (q : Int) ∧ v = .slice oh 8 ch ∧ Hid (RdV wr oh (w32 (shaS L k).list)) ∧ Hid (Below w2.heap.size w2 wr)) (fun _ i _ => N - (intOf i).toNat)
  case atStart => exact ⟨0, 0, oh0, 8, Nat.zero_le _, rfl, rfl, rfl, HR2, Below.refl _ _⟩
  case round =>
    clear HR2
    obtain ⟨k, q, oh, ch, hk, hq, rfl, rfl, HR, HB⟩ := hrel
    by_cases h : k = nb
    · have hN := HN.out
      have hq1 : ¬ (q : Int) < (N : Int) := by omega
      obtain rfl := h
      have HWS : Hid (∀ i, wAt (shaS L k).list i < 4294967296) := fun i => list8_lt _ (shaS_ok _ _) i
      have hlen : (shaS L k).list.length = 8 := rfl
      have HSL : Hid (shaL L = outL (shaS L k).list 32) := by show _ = _; unfold shaL; rw [HNB.out]
      have HBW := Lib.hid (HB2.out.trans (HB.out.mono HB2.out.size))
      generalize (shaS L k).list = ws at HWS hlen HSL HR
      obtain ⟨w3, rfl⟩ : ∃ w3 : World, w3 = wr := ⟨_, rfl⟩
      clear HB HB2 HRB hq hN
      go_wp2_with fail
      clear hq1
      go_loopw [6, 7] (fun v i wr => ∃ (j m : Nat) (oa : Option Addr) (cap : Nat), j ≤ 8 ∧ m = 4 * j ∧ i = .int .i64 j ∧ v = .slice oa m cap ∧ Hid (OwnV 5 w3.heap.size (.slice oa m cap) (cellsB (outL ws (4 * j))) wr) ∧ Hid (Below w3.heap.size w3 wr)) (fun _ i _ => 8 - (intOf i).toNat)
      case atStart => exact ⟨0, 0, none, 0, Nat.zero_le _, rfl, rfl, rfl, ⟨World.ownsRow_nil _ _ _ _, Nat.le_refl _⟩, Below.refl _ _⟩
      case round =>
        obtain ⟨j, m, oz, cz, hj, hm, rfl, rfl, HO, HB⟩ := hrel
        by_cases hj8 : j = 8
        · obtain rfl := hj8
          obtain rfl : m = 32 := by omega
          clear hm
          have q5 : ¬ ((8 : Nat) : Int) < 8 := by omega
          have HRR := Lib.hid HO.out.rd.1
          have HBB : Hid (Below w.heap.size w wr) := HBW.out.trans (HB.out.mono HBW.out.size)
          have hcv := rd_conv wr oz (outL ws (4 * 8)) 32 cz (by unfold outL; simp) (by decide) HRR.out
          have hfin : (⟨(outL ws (4 * 8)).toArray⟩ : ByteArray) = shaB s := by rw [HSH.out, HSL.out]
          rw [hfin] at hcv
          clear HO HB hfin
          go_wp2_with fail
          go_ret
          exact ⟨rfl, HBB.out⟩
        · have q5 : (j : Int) < 8 := by omega
          have hj7 : j < 8 := by omega
          obtain ⟨gb, go, rfl, hgb, hgc⟩ := HR.out.some (by rw [w32_len]; omega)
          have c1 := (HB.out.cell (p := ⟨gb, go + j, none⟩) hgb).trans (hgc j _ (w32_at ws j (by omega)))
          have hx := HWS.out j
          have HOL : Hid (cellsB (outL ws (4 * (j + 1))) = cellsB (outL ws (4 * j)) ++ [.int .u8 (IntKind.u8.wrap ((wAt ws j : Int) / 16777216)), .int .u8 (IntKind.u8.wrap ((wAt ws j : Int) / 65536)), .int .u8 (IntKind.u8.wrap ((wAt ws j : Int) / 256)), .int .u8 (IntKind.u8.wrap (wAt ws j : Int))]) := by
            show _ = _
            rw [outL4, cellsB_append]
            simp [cellsB, byteI, IntKind.wrap_u8]
          have HXL : Hid ((cellsB (outL ws (4 * j))).length = m) := by show _ = _; rw [cellsB_len, hm]; unfold outL; simp
          generalize wAt ws j = x at c1 hx HOL
          have HO3 : Hid (OwnV 5 w3.heap.size (.slice oz m cz) (cellsB (outL ws (4 * j))) wr.drew) := HO.out.kept (Below.refl _ _).drew
          have hgr : gb < wr.heap.size := by have := HB.out.size; omega
          have HM := Lib.hid hm
          have hm32 : m ≤ 32 := by omega
          clear hgc HO hj8 hm
          go_wp2_with fail
          go_region_held3 (fun W => W.cell? ⟨gb, go + j, none⟩ = some (.int .u32 (x : Int)))
            (first | go_keep | exact (HF.out.cell ⟨gb, go + j, none⟩ hgr (by show ¬ _ ≤ gb; omega)).trans c1)
            ((refine step_appL (st := 42) (m := 4) HXL.out [_, _, _, _] rfl rfl (by decide) Tryz.underlying42 inf8 rfl (by decide) (by rfl) _ _ (by rfl) (by rfl) (by rfl) HO3 (by omega) (by intro u hu; simp only [List.mem_cons, List.not_mem_nil, or_false] at hu; rcases hu with rfl | rfl | rfl | rfl <;> rfl) ?_; intro oa2 cap2 w5 HO4 HF))
          rw [← HOL.out] at HO4
          have HB5 : Hid (Below w3.heap.size w3 w5) := HB.out.drew.trans (HF.out.below _ (by have := HB.out.size; show _ ≤ wr.heap.size; omega) (fun k hk => hk))
          clear HB c1 HF HOL
          go_wp2_with fail
          go_roundw
          case rel => exact ⟨j + 1, m + 4, oa2, cap2, by omega, by have h1 := HM.out; omega, by go_num, rfl, HO4, HB5⟩
          case measure => simp [intOf]; omega
    · have hN := HN.out
      have hq1 : (q : Int) < (N : Int) := by omega
      obtain ⟨bb, bo, rfl, hbb, hbc⟩ := HRB.out.some (by rw [cellsB_len, HNN.out]; omega)
      obtain ⟨p, hp⟩ : ∃ p, q + 64 = p := ⟨_, rfl⟩
      have hpN : p ≤ N := by omega
      have e1 : IntKind.i64.wrap ((q : Int) + 64) = (p : Int) := by rw [IntWalk.i64_in _ (by omega)]; omega
      have e2 : (0 : Int) ≤ (q : Int) := by omega
      have e3 : (q : Int) ≤ (p : Int) := by omega
      have e4 : (p : Int) ≤ (cb : Int) := by omega
      have e5 : (q : Int) < (cb : Int) := by omega
      have e6 : q < cb := by omega
      have e7 : p - q = 64 := by omega
      have HRK : Hid (RdV wr (some ⟨bb, bo + q, none⟩) (cellsB (blkAt L k))) := (blk_rd hbb hq hbc).kept HB.out
      have HBK : Hid (∀ n c, n = 64 → Calls Tryz.prog 100 #[.slice oh 8 ch, .slice (some ⟨bb, bo + q, none⟩) n c] wr (BlkP wr (w32 (shaS L (k + 1)).list))) := fun n c hn => by
        subst hn
        exact refBlock_any (shaS L k) (blkAt L k) oh (some ⟨bb, bo + q, none⟩) ch c wr (shaS_ok _ _) (blkAt_len L k (by rw [HNB.out]; omega)) HR.out HRK.out
      have hk1 : k + 1 ≤ nb := by omega
      have HQ := Lib.hid hq
      have HP := Lib.hid hp
      clear hbc HRK HR hq hp hN h
      go_wp2_with fail
      refine (HBK.out _ _ (by omega)).mono ?_
      rintro e w3 ⟨o3, c3, rfl, hr3, hb3⟩
      have HR3 := Lib.hid hr3
      have HB3 : Hid (Below w2.heap.size w2 w3) := HB.out.trans (hb3.mono HB.out.size)
      clear HB hr3 hb3 HBK
      go_wp2_with fail
      go_roundw
      case rel => exact ⟨k + 1, p, o3, c3, by omega, by have h1 := HQ.out; have h2 := HP.out; omega, by go_num, rfl, HR3, HB3⟩
      case measure => have h2 := HP.out; simp [intOf]; omega
end Go.Proofs.YtfpcdlpfmlaakaaGreatDoor
