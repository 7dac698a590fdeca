/-
  The reference implementation of package digest: Sum.
-/
import Derived.WalkKit
import Derived.LoopTactic
import Derived.WalkSpells
import Derived.WalkLawsBesides
import Derived.IntWalk
import Derived.Outline
import Derived.Deep.QuietTactic
import Derived.BigQuiet
import Derived.Deep.RegionLaw
import Derived.Deep.RegionHeld3
import Derived.Deep.DrawnRows
import Derived.Deep.AppendLies
import Derived.Laws.EntriesVeiled
import Derived.Lib.Hide
import Derived.Laws.OwnMore
import Derived.Test.YtfpcdlpfmlaakaaGreatDoorAsShb
import Derived.Test.YtfpcdlpfmlaakaaGreatDoorDgG
import Derived.Test.YtfpcdlpfmlaakaaGreatDoorDgI
import Derived.Test.YtfpcdlpfmlaakaaGreatDoorDgK
import Derived.Test.YtfpcdlpfmlaakaaGreatDoorDgN
import Derived.Test.YtfpcdlpfmlaakaaGreatDoorAsSA
import Derived.Test.YtfpcdlpfmlaakaaGreatDoorAsSB
import Derived.Test.YtfpcdlpfmlaakaaGreatDoorDgD
set_option linter.unusedVariables false
set_option linter.unusedSimpArgs false
namespace Go.Proofs.YtfpcdlpfmlaakaaGreatDoor
open Go.RowKit Onair
attribute [local go_sem ↓] Go.wp_at_zero Go.wp_at_succ
theorem step_appL {st t : TypeId} {z : Value} {bytes : Nat} {ops : Array Oper} {o : Oper} {a : Act} {K : Act → World → Prop} {Q : Exit → Act → World → Prop} {E : Prop} {B : Nat} {v : Value} {xs : List Value} {W : World} {n m : Nat} {cs : Array Value} (hn : xs.length = n) (us : List Value) (hcs : cs = us.toArray) (hm : us.length = m) (h0 : 0 < m)
    (hu : Tryz.prog.underlying st = some (.slice t)) (hinf : (Tryz.prog.info? t).map (fun i => (i.zero, i.size, i.bytes)) = some (some z, 1, bytes)) (hzc : z.cells.size = 1) (hby : bytes ≤ 16) (hgd : o.guard = none) (s x : Operand)
    (ho : o.op = .call { callee := .builtin .append, args := #[s, x], argTypes := #[st, st] }) (hs : a.eval s = v) (hx : a.eval x = .slice (some ⟨W.heap.size, 0, none⟩) m m)
    (h : Hid (OwnV t B v xs W)) (hl : n + m ≤ 1000000) (h1u : ∀ u ∈ us, u.oneCell' = true)
    (hK : ∀ oa cap w', Hid (OwnV t B (.slice oa (n + m) cap) (xs ++ us) w') → Hid (Fr (fun k => B ≤ k) W w') → K (a.put o.dst (.slice oa (n + m) cap)) w') :
    if Region.wanted o (yielded ops a.tmps) = true then Oper.wp Tryz.prog o a (W.alloc (.cells cs t)) K Q else E := by
  subst hcs hn hm
  have hw : Region.wanted o (yielded ops a.tmps) = true := by simp [Region.wanted, hgd]
  rw [if_pos hw]
  have hb : Below W.heap.size W (W.alloc (.cells us.toArray t)) := (Below.refl _ _).alloc (Nat.le_refl _) _
  have hnew := Blk.new W t us
  have hy : RdV (W.alloc (.cells us.toArray t)) (some ⟨W.heap.size, 0, none⟩) us := .inr ⟨W.heap.size, 0, rfl, hnew.lt, fun j v hj => by
    rw [Nat.zero_add]
    exact (hnew.cell j).trans hj⟩
  obtain ⟨oa, cap, w', hrun, h2, h3⟩ := app_listV hu hinf hzc hby (W.alloc (.cells us.toArray t)) B v xs us (some ⟨W.heap.size, 0, none⟩) us.length (h.out.kept hb) hy h0 hl h1u o.type
  have h4 : Fr (fun k => B ≤ k) W w' := ((Fr.refl _ W).alloc _).trans h3 (fun _ _ h => h)
  unfold Oper.wp
  simp [execOp, ho, resolve, invoke, builtin, hs, hx, hrun, Result.andThen]
  exact hK oa cap w' h2 h4
theorem rd_conv (W : World) (oa : Option Addr) (l : List UInt8) (n cap : Nat) (hn : l.length = n) (h0 : 0 < n) (h : RdV W oa (cellsB l)) : (convert 42 9 (.slice oa n cap)).run Tryz.prog W = .ok (.string ⟨l.toArray⟩) W := by
  subst hn
  obtain ⟨b, o, rfl, _, hc⟩ := h.some (by rw [cellsB_len]; exact h0)
  exact run_convert_bytes_back (P := Tryz.prog) W 42 9 5 ⟨b, o, none⟩ cap l Tryz.underlying42 Tryz.underlying5 Tryz.underlying9 (fun j hj => by
    rw [show ((⟨b, o, none⟩ : Addr).add j) = ⟨b, o + j, none⟩ from by unfold Addr.add; split <;> simp_all]
    exact hc j _ (cellsB_get l j hj))
theorem outL4 (ws : List Nat) (k : Nat) : outL ws (4 * (k + 1)) = outL ws (4 * k) ++ [UInt8.ofNat (wAt ws k / 16777216), UInt8.ofNat (wAt ws k / 65536), UInt8.ofNat (wAt ws k / 256), UInt8.ofNat (wAt ws k)] := by
  have e0 : outB ws (4 * k) = UInt8.ofNat (wAt ws k / 16777216) := by unfold outB; rw [show 4 * k / 4 = k by omega, show 4 * k % 4 = 0 by omega]
  have e1 : outB ws (4 * k + 1) = UInt8.ofNat (wAt ws k / 65536) := by unfold outB; rw [show (4 * k + 1) / 4 = k by omega, show (4 * k + 1) % 4 = 1 by omega]
  have e2 : outB ws (4 * k + 1 + 1) = UInt8.ofNat (wAt ws k / 256) := by unfold outB; rw [show (4 * k + 1 + 1) / 4 = k by omega, show (4 * k + 1 + 1) % 4 = 2 by omega]
  have e3 : outB ws (4 * k + 1 + 1 + 1) = UInt8.ofNat (wAt ws k) := by
    unfold outB
    rw [show (4 * k + 1 + 1 + 1) / 4 = k by omega, show (4 * k + 1 + 1 + 1) % 4 = 3 by omega]
    rw [show 2 ^ (24 - 8 * 3) = 1 from rfl, Nat.div_one]
  unfold outL
  rw [show 4 * (k + 1) = 4 * k + 1 + 1 + 1 + 1 by omega, List.range_succ, List.range_succ, List.range_succ, List.range_succ]
  simp [e0, e1, e2, e3]
theorem byteI (x : Nat) : ((UInt8.ofNat x).toNat : Int) = (x : Int) % 256 := by
  rw [UInt8.toNat_ofNat']
  omega
theorem blk_rd {W : World} {bb bo q k : Nat} {L : List UInt8} (hlt : bb < W.heap.size) (hq : q = k * 64) (h : ∀ (j : Nat) v, (cellsB (padL L))[j]? = some v → W.cell? ⟨bb, bo + j, none⟩ = some v) : RdV W (some ⟨bb, bo + q, none⟩) (cellsB (blkAt L k)) := by
  refine .inr ⟨bb, bo + q, rfl, hlt, fun j v hj => ?_⟩
  unfold blkAt at hj
  rw [cellsB_take, cellsB_drop, List.getElem?_take] at hj
  split at hj
  · rw [List.getElem?_drop] at hj
    rw [show bo + q + j = bo + (k * 64 + j) by omega]
    exact h _ _ hj
  · cases hj
set_option maxHeartbeats 8000000 in
set_option maxRecDepth 100000 in
theorem refSum_any (s : ByteArray) (w : World) (hs : s.size ≤ 140737488351232) :
    Calls Tryz.prog 71 #[.string s] w fun e w' => e = .returned (.string (shaB s)) ∧ Below w.heap.size w w' := by
  obtain ⟨L, hL⟩ : ∃ L, s.data.toList = L := ⟨_, rfl⟩
  have hEX := fun W => refExt_any s W hs
  have hSH : shaB s = ⟨(shaL L).toArray⟩ := by unfold shaB; rw [hL]
  have hLs : L.length = s.size := by rw [← hL]; exact blen s
  rw [hL] at hEX
  have hN : (padL L).length = nBlk L * 64 := padL_len L
  have hnb : nBlk L ≤ 2300000000000 := by unfold nBlk; split <;> omega
  have hnb0 : 0 < nBlk L := by unfold nBlk; omega
  obtain ⟨N, hNN⟩ : ∃ N, (padL L).length = N := ⟨_, rfl⟩
  rw [hNN] at hN
  have HEX := Lib.hid hEX
  have HSH := Lib.hid hSH
  have HNN := Lib.hid hNN
  obtain ⟨nb, hnbe⟩ : ∃ nb, nBlk L = nb := ⟨_, rfl⟩
  rw [hnbe] at hN hnb hnb0
  have HNB := Lib.hid hnbe
  have hN2 : N ≤ 140800000000000000 := by omega
  have HN := Lib.hid hN
  clear hEX hSH hNN hL hLs hnbe hN
  go_enter Tryz.func71, Tryz.ntmps71
  go_wp2_with fail
  have HR0 : Hid (RdV (w.alloc (.cells #[.int .u32 1779033703, .int .u32 3144134277, .int .u32 1013904242, .int .u32 2773480762, .int .u32 1359893119, .int .u32 2600822924, .int .u32 528734635, .int .u32 1541459225] 144)) (some ⟨w.heap.size, 0, none⟩) (w32 (shaS L 0).list)) := by
    have hb := Blk.new w 144 (w32 s8init.list)
    refine .inr ⟨w.heap.size, 0, rfl, hb.lt, fun j v hj => ?_⟩
    rw [Nat.zero_add]
    exact (hb.cell j).trans hj
  have HB0 : Hid (Below w.heap.size w (w.alloc (.cells #[.int .u32 1779033703, .int .u32 3144134277, .int .u32 1013904242, .int .u32 2773480762, .int .u32 1359893119, .int .u32 2600822924, .int .u32 528734635, .int .u32 1541459225] 144))) := (Below.refl _ _).alloc (Nat.le_refl _) _
  generalize w.alloc (.cells #[.int .u32 1779033703, .int .u32 3144134277, .int .u32 1013904242, .int .u32 2773480762, .int .u32 1359893119, .int .u32 2600822924, .int .u32 528734635, .int .u32 1541459225] 144) = w1 at HR0 HB0 ⊢
  refine (HEX.out w1).mono ?_
  rintro e w2 ⟨ob, cb, rfl, hown, hb2⟩
  rw [HNN.out] at hown ⊢
  obtain ⟨hrb, hln, hcap, hcm⟩ := hown.rd
  have HRB := Lib.hid hrb
  have HR2 := Lib.hid (HR0.out.kept hb2)
  have HB2 : Hid (Below w.heap.size w w2) := HB0.out.trans (hb2.mono HB0.out.size)
  generalize (some ⟨w.heap.size, 0, none⟩ : Option Addr) = oh0 at HR2 ⊢
  clear HR0 HB0 hown hb2 hrb hln
  go_wp2_with fail
  go_loopw [3, 5] (fun v i wr => ∃ (k q : Nat) (oh : Option Addr) (ch : Nat), k ≤ nb ∧ q = k * 64 ∧ i = .int .i64 (q : Int) ∧ v = .slice oh 8 ch ∧ Hid (RdV wr oh (w32 (shaS L k).list)) ∧ Hid (Below w2.heap.size w2 wr)) (fun _ i _ => N - (intOf i).toNat)
  case atStart => exact ⟨0, 0, oh0, 8, Nat.zero_le _, rfl, rfl, rfl, HR2, Below.refl _ _⟩
  case round =>
    clear HR2
    obtain ⟨k, q, oh, ch, hk, hq, rfl, rfl, HR, HB⟩ := hrel
    by_cases h : k = nb
    · have hN := HN.out
      have hq1 : ¬ (q : Int) < (N : Int) := by omega
      obtain rfl := h
      have HWS : Hid (∀ i, wAt (shaS L k).list i < 4294967296) := fun i => list8_lt _ (shaS_ok _ _) i
      have hlen : (shaS L k).list.length = 8 := rfl
      have HSL : Hid (shaL L = outL (shaS L k).list 32) := by show _ = _; unfold shaL; rw [HNB.out]
      have HBW := Lib.hid (HB2.out.trans (HB.out.mono HB2.out.size))
      generalize (shaS L k).list = ws at HWS hlen HSL HR
      obtain ⟨w3, rfl⟩ : ∃ w3 : World, w3 = wr := ⟨_, rfl⟩
      clear HB HB2 HRB hq hN
      go_wp2_with fail
      clear hq1
      go_loopw [6, 7] (fun v i wr => ∃ (j m : Nat) (oa : Option Addr) (cap : Nat), j ≤ 8 ∧ m = 4 * j ∧ i = .int .i64 j ∧ v = .slice oa m cap ∧ Hid (OwnV 5 w3.heap.size (.slice oa m cap) (cellsB (outL ws (4 * j))) wr) ∧ Hid (Below w3.heap.size w3 wr)) (fun _ i _ => 8 - (intOf i).toNat)
      case atStart => exact ⟨0, 0, none, 0, Nat.zero_le _, rfl, rfl, rfl, ⟨World.ownsRow_nil _ _ _ _, Nat.le_refl _⟩, Below.refl _ _⟩
      case round =>
        obtain ⟨j, m, oz, cz, hj, hm, rfl, rfl, HO, HB⟩ := hrel
        by_cases hj8 : j = 8
        · obtain rfl := hj8
          obtain rfl : m = 32 := by omega
          clear hm
          have q5 : ¬ ((8 : Nat) : Int) < 8 := by omega
          have HRR := Lib.hid HO.out.rd.1
          have HBB : Hid (Below w.heap.size w wr) := HBW.out.trans (HB.out.mono HBW.out.size)
          have hcv := rd_conv wr oz (outL ws (4 * 8)) 32 cz (by unfold outL; simp) (by decide) HRR.out
          have hfin : (⟨(outL ws (4 * 8)).toArray⟩ : ByteArray) = shaB s := by rw [HSH.out, HSL.out]
          rw [hfin] at hcv
          clear HO HB hfin
          go_wp2_with fail
          go_ret
          exact ⟨rfl, HBB.out⟩
        · have q5 : (j : Int) < 8 := by omega
          have hj7 : j < 8 := by omega
          obtain ⟨gb, go, rfl, hgb, hgc⟩ := HR.out.some (by rw [w32_len]; omega)
          have c1 := (HB.out.cell (p := ⟨gb, go + j, none⟩) hgb).trans (hgc j _ (w32_at ws j (by omega)))
          have hx := HWS.out j
          have HOL : Hid (cellsB (outL ws (4 * (j + 1))) = cellsB (outL ws (4 * j)) ++ [.int .u8 (IntKind.u8.wrap ((wAt ws j : Int) / 16777216)), .int .u8 (IntKind.u8.wrap ((wAt ws j : Int) / 65536)), .int .u8 (IntKind.u8.wrap ((wAt ws j : Int) / 256)), .int .u8 (IntKind.u8.wrap (wAt ws j : Int))]) := by
            show _ = _
            rw [outL4, cellsB_append]
            simp [cellsB, byteI, IntKind.wrap_u8]
          have HXL : Hid ((cellsB (outL ws (4 * j))).length = m) := by show _ = _; rw [cellsB_len, hm]; unfold outL; simp
          generalize wAt ws j = x at c1 hx HOL
          have HO3 : Hid (OwnV 5 w3.heap.size (.slice oz m cz) (cellsB (outL ws (4 * j))) wr.drew) := HO.out.kept (Below.refl _ _).drew
          have hgr : gb < wr.heap.size := by have := HB.out.size; omega
          have HM := Lib.hid hm
          have hm32 : m ≤ 32 := by omega
          clear hgc HO hj8 hm
          go_wp2_with fail
          go_region_held3 (fun W => W.cell? ⟨gb, go + j, none⟩ = some (.int .u32 (x : Int)))
            (first | go_keep | exact (HF.out.cell ⟨gb, go + j, none⟩ hgr (by show ¬ _ ≤ gb; omega)).trans c1)
            ((refine step_appL (st := 42) (m := 4) HXL.out [_, _, _, _] rfl rfl (by decide) Tryz.underlying42 inf8 rfl (by decide) (by rfl) _ _ (by rfl) (by rfl) (by rfl) HO3 (by omega) (by intro u hu; simp only [List.mem_cons, List.not_mem_nil, or_false] at hu; rcases hu with rfl | rfl | rfl | rfl <;> rfl) ?_; intro oa2 cap2 w5 HO4 HF))
          rw [← HOL.out] at HO4
          have HB5 : Hid (Below w3.heap.size w3 w5) := HB.out.drew.trans (HF.out.below _ (by have := HB.out.size; show _ ≤ wr.heap.size; omega) (fun k hk => hk))
          clear HB c1 HF HOL
          go_wp2_with fail
          go_roundw
          case rel => exact ⟨j + 1, m + 4, oa2, cap2, by omega, by have h1 := HM.out; omega, by go_num, rfl, HO4, HB5⟩
          case measure => simp [intOf]; omega
    · have hN := HN.out
      have hq1 : (q : Int) < (N : Int) := by omega
      obtain ⟨bb, bo, rfl, hbb, hbc⟩ := HRB.out.some (by rw [cellsB_len, HNN.out]; omega)
      obtain ⟨p, hp⟩ : ∃ p, q + 64 = p := ⟨_, rfl⟩
      have hpN : p ≤ N := by omega
      have e1 : IntKind.i64.wrap ((q : Int) + 64) = (p : Int) := by rw [IntWalk.i64_in _ (by omega)]; omega
      have e2 : (0 : Int) ≤ (q : Int) := by omega
      have e3 : (q : Int) ≤ (p : Int) := by omega
      have e4 : (p : Int) ≤ (cb : Int) := by omega
      have e5 : (q : Int) < (cb : Int) := by omega
      have e6 : q < cb := by omega
      have e7 : p - q = 64 := by omega
      have HRK : Hid (RdV wr (some ⟨bb, bo + q, none⟩) (cellsB (blkAt L k))) := (blk_rd hbb hq hbc).kept HB.out
      have HBK : Hid (∀ n c, n = 64 → Calls Tryz.prog 100 #[.slice oh 8 ch, .slice (some ⟨bb, bo + q, none⟩) n c] wr (BlkP wr (w32 (shaS L (k + 1)).list))) := fun n c hn => by
        subst hn
        exact refBlock_any (shaS L k) (blkAt L k) oh (some ⟨bb, bo + q, none⟩) ch c wr (shaS_ok _ _) (blkAt_len L k (by rw [HNB.out]; omega)) HR.out HRK.out
      have hk1 : k + 1 ≤ nb := by omega
      have HQ := Lib.hid hq
      have HP := Lib.hid hp
      clear hbc HRK HR hq hp hN h
      go_wp2_with fail
      refine (HBK.out _ _ (by omega)).mono ?_
      rintro e w3 ⟨o3, c3, rfl, hr3, hb3⟩
      have HR3 := Lib.hid hr3
      have HB3 : Hid (Below w2.heap.size w2 w3) := HB.out.trans (hb3.mono HB.out.size)
      clear HB hr3 hb3 HBK
      go_wp2_with fail
      go_roundw
      case rel => exact ⟨k + 1, p, o3, c3, by omega, by have h1 := HQ.out; have h2 := HP.out; omega, by go_num, rfl, HR3, HB3⟩
      case measure => have h2 := HP.out; simp [intOf]; omega
end Go.Proofs.YtfpcdlpfmlaakaaGreatDoor
