/-
  The walk of asrun.scan: the iterator over the stored records of a disk.
-/
import Derived.RangeFuncNested
import Derived.RangeFuncBound
import Derived.RangeFuncCalls
import Derived.RangeFuncLeaves
import Derived.RangeFuncBox
import Derived.Shelf.Abstract
import Derived.Shelf.RegionOpen
import Derived.WalkKit
import Derived.OwnWalkIn
import Derived.TacticsInMore
import Derived.LoopNIn
import Derived.LoopIn
import Derived.RegionIn
import Derived.BigRegionIn
import Derived.Sort.CutIn
import Derived.Outline
import Derived.Lib.Hide
import Derived.Test.YtfpcdlpfmlaakaaGreatDoorBas
import Derived.Test.YtfpcdlpfmlaakaaGreatDoorAsD
set_option linter.unusedVariables false
set_option linter.unusedSimpArgs false
namespace Go.Proofs.YtfpcdlpfmlaakaaGreatDoor
open Go.RowKit Go.Shelf Onair
attribute [local go_sem] Oper.semAt_some
structure SX where
  r : Rec
  enc : ByteArray
  h : ByteArray
  n : Int
  ok : Bool
abbrev sxEncs (x : SX) : Array Value := #[.agg (stA x.r x.enc x.h x.n), .bool x.ok]
def itemF (head : ByteArray) (a : Nat) : List Rec → List SX
  | [] => []
  | r :: l => ⟨r, encB r, chainB head (encB r), ((a + (storedL head r).length : Nat) : Int), true⟩ :: itemF (chainB head (encB r)) (a + (storedL head r).length) l
/-- The head of a round of scan. -/
structure ScI (c : List UInt8) (f a : Nat) (hd : ByteArray) (pre : List SX) (items : List SX) (stops : Bool) : Prop where
  it : items = pre ++ itemF hd a (scanF f c a hd).1
  st : stops = (scanF f c a hd).2
  fuel : c.length < a + f
  le : a ≤ c.length
  hs : hd.size ≤ 32
theorem ScI.stop {c : List UInt8} {f a : Nat} {hd : ByteArray} {pre items : List SX} {stops : Bool} (h : ScI c f a hd pre items stops) (h0 : c.getD a 0 = 0) : items = pre ∧ stops = false := by
  obtain ⟨g, rfl⟩ : ∃ g, f = g + 1 := ⟨f - 1, by have := h.fuel; have := h.le; omega⟩
  have e : scanF (g + 1) c a hd = ([], false) := by unfold scanF; rw [if_pos h0]
  have h1 := h.it
  have h2 := h.st
  rw [e] at h1 h2
  exact ⟨by simpa [itemF] using h1, h2⟩
theorem ScI.bad {c : List UInt8} {f a : Nat} {hd : ByteArray} {pre items : List SX} {stops : Bool} (h : ScI c f a hd pre items stops) (h0 : ¬ c.getD a 0 = 0) (hr : readP c a hd = none) : items = pre ∧ stops = true := by
  obtain ⟨g, rfl⟩ : ∃ g, f = g + 1 := ⟨f - 1, by have := h.fuel; have := h.le; omega⟩
  have e : scanF (g + 1) c a hd = ([], true) := by unfold scanF; rw [if_neg h0, hr]
  have h1 := h.it
  have h2 := h.st
  rw [e] at h1 h2
  exact ⟨by simpa [itemF] using h1, h2⟩
theorem ScI.next {c : List UInt8} {f a : Nat} {hd : ByteArray} {pre items : List SX} {stops : Bool} (h : ScI c f a hd pre items stops) (h0 : ¬ c.getD a 0 = 0) {r : Rec} {h' : ByteArray} {e : Nat} (hr : readP c a hd = some (r, h', e)) :
    items[pre.length]? = some ⟨r, encB r, h', (e : Int), true⟩ ∧ ∃ g, ScI c g e h' (pre ++ [⟨r, encB r, h', (e : Int), true⟩]) items stops := by
  obtain ⟨g, rfl⟩ : ∃ g, f = g + 1 := ⟨f - 1, by have := h.fuel; have := h.le; omega⟩
  have e0 : scanF (g + 1) c a hd = (r :: (scanF g c e h').1, (scanF g c e h').2) := by
    conv => lhs; unfold scanF
    rw [if_neg h0, hr]
  obtain ⟨v, rfl, he, ht, hle⟩ := readP_back hr
  have h1 := h.it
  have h2 := h.st
  have h3 := h.fuel
  have hb := storedL_bd hd r
  rw [e0] at h1 h2
  have h4 : items = pre ++ [⟨r, encB r, chainB hd (encB r), (e : Int), true⟩] ++ itemF (chainB hd (encB r)) e (scanF g c e (chainB hd (encB r))).1 := by
    rw [h1, he]
    simp [itemF]
  refine ⟨?_, g, h4, h2, by omega, hle, by rw [chainB_size]; exact Nat.le_refl _⟩
  rw [h4, List.append_assoc, List.getElem?_append_right (Nat.le_refl _), Nat.sub_self]
  rfl
def itemsC (c : List UInt8) : List SX := itemF zero32 0 (scanP c).1
theorem ScI.start (c : List UInt8) : ScI c (c.length + 1) 0 zero32 [] (itemsC c) (scanP c).2 := ⟨rfl, rfl, by omega, Nat.zero_le _, by decide⟩
theorem scan_any (s : ByteArray) (w : World) :
    Calls Tryz.prog 76 #[.string s] w fun e w' => e = .returned (.func (.func 101) #[] #[.pointer (some ⟨w.heap.size, 0, none⟩)]) ∧ w' = w.alloc (.cells #[.string s] 9) := by
  go_enter Tryz.func76, Tryz.ntmps76
  go_wp2
  go_ret
  exact ⟨rfl, rfl⟩
theorem Blk.kpS {S : Nat → Prop} {W W' : World} {g : Nat} {t : TypeId} {l : List Value} (h : Blk W g t l) (hk : KpS S W W') (hs : ¬ S g) : Blk W' g t l := hk.same g _ h rfl hs
theorem TabAt.kpS {S : Nat → Prop} {W W' : World} (h : TabAt W) (hk : KpS S W W') (hs : ¬ S 0) : TabAt W' := fun i hi => by
  obtain ⟨o, h1, h2⟩ := cells_of_cell (h i hi)
  have h3 := hk.same _ o h1 h2 hs
  have h4 := h i hi
  simp only [World.cell?, h1] at h4
  simp only [World.cell?, h3]
  exact h4
theorem getD_data (c : ByteArray) (a : Nat) (h : a < c.size) : c.data.toList.getD a 0 = c[a] := by
  rw [List.getD_eq_getElem?_getD, List.getElem?_eq_getElem (by rw [blen]; exact h)]
  rfl
set_option maxHeartbeats 4000000 in
set_option maxRecDepth 100000 in
theorem scan_seq (n : Nat) (hn : 1 ≤ n) (Bn : Nat) (c : ByteArray) (w : World) (hc : c.size ≤ 4194304) (hbn : Blk w Bn 9 [.string c]) (ht : TabAt w) :
    SeqE Fence.wide n Tryz.prog 101 #[.pointer (some ⟨Bn, 0, none⟩)] sxEncs (fun b => b = Bn ∨ b = 0) (itemsC c.data.toList) (fun z => z.ok = false) (scanP c.data.toList).2 w := fun l J Jz W hW hJ hJz hS hY hYz h0 => by
  obtain ⟨S0, h0⟩ := h0
  have HST := Lib.hid (start_any W)
  have HJ := Lib.hid hJ
  have HJZ := Lib.hid hJz
  have HS := Lib.hid hS
  have HY := Lib.hid hY
  have HYZ := Lib.hid hYz
  have H0 := Lib.hid h0
  have HW := Lib.hid hW
  have HBN := Lib.hid hbn
  have HT := Lib.hid ht
  have HSC := Lib.hid (ScI.start c.data.toList)
  generalize itemsC c.data.toList = items at *
  generalize (scanP c.data.toList).2 = stops at *
  clear h0 hW hbn ht hJ hJz hS hY hYz
  refine callsIn_of_wp Tryz.func101 rfl trivial ?_ rfl
  simp only [Tryz.ntmps101, List.size_toArray, List.length_cons, List.length_nil, Nat.reduceAdd, Nat.reduceSub, Array.replicate_succ, Array.replicate_zero, List.push_toArray, List.append_toArray, List.nil_append, List.cons_append]
  gi_wp2
  refine ⟨trivial, (callsIn_wide.2 HST.out).mono ?_⟩
  rintro e w1 ⟨rfl, hb1⟩
  have HJ1 : Hid (J 0 S0 w1) := HJ.out 0 S0 W w1 H0.out hb1
  have HB1 : Hid (Below w.heap.size w w1) := HW.out.trans (hb1.mono HW.out.size)
  have hbn1 : Blk w1 Bn 9 [.string c] := HBN.out.kept (HB1.out.block Bn HBN.out.lt)
  have c0 := hbn1.cell 0
  simp only [List.getElem?_cons_zero] at c0
  have HT1 := Lib.hid (HT.out.below HB1.out)
  have HBN1 := Lib.hid hbn1
  clear hb1 hbn1 HST H0 HW HBN HT
  gi_wp2
  clear c0
  gi_loopw [3, 4] (fun x y wr => ∃ (pre : List SX) (f a : Nat) (hd : ByteArray) (S : Nat → Prop), y = .int .i64 (a : Int) ∧ x = .string hd ∧ Hid (ScI c.data.toList f a hd pre items stops) ∧ Hid (J pre.length S wr) ∧ Hid (Blk wr Bn 9 [.string c]) ∧ Hid (TabAt wr)) (fun _ y _ => c.size - (intOf y).toNat)
  case atStart => exact ⟨[], _, 0, zero32, S0, rfl, rfl, HSC, HJ1, HBN1, HT1⟩
  case round =>
    clear HSC HJ1 HBN1 HT1
    obtain ⟨pre, f, a, hd, S, rfl, rfl, HI, HJr, HBr, HTr⟩ := hrel
    have c0 := HBr.out.cell 0
    simp only [List.getElem?_cons_zero] at c0
    have hac := HI.out.le
    rw [blen] at hac
    by_cases hlt : a < c.size
    · have q1 : (a : Int) < c.size := by omega
      by_cases hz : c[a] = 0
      · obtain ⟨e1, e2⟩ := HI.out.stop (by rw [getD_data c a hlt]; exact hz)
        have E1 := Lib.hid e1
        have E2 := Lib.hid e2
        have hz2 : ((c[a].toNat : Int) != 0) = false := by rw [hz]; rfl
        clear e1 e2 hz
        gi_wp2
        refine bodyPost_end (results_none rfl _ _ _) rfl ?_
        exact ⟨⟨_, rfl⟩, .inl ⟨E2.out, S, by rw [E1.out]; exact HJr.out⟩⟩
      · have hz1 : ¬ c.data.toList.getD a 0 = 0 := by rw [getD_data c a hlt]; exact hz
        have hz2 : ((c[a].toNat : Int) != 0) = true := by
          rw [bne_iff_ne]
          intro e
          exact hz (UInt8.toNat.inj (by have : c[a].toNat = 0 := by omega
                                        exact this))
        have HRD := Lib.hid (read_any' c a hd wr hc hlt HI.out.hs HTr.out)
        have HZ1 : Hid (¬ c.data.toList.getD a 0 = 0) := hz1
        clear hz hz1
        gi_wp2
        refine ⟨trivial, (callsIn_wide.2 HRD.out).mono ?_⟩
        rintro e w2 ⟨r, enc, h', n', rfl, hrd, hb2⟩
        have HRR := Lib.hid hrd
        obtain ⟨X, hX⟩ : ∃ X, wr.heap.size = X := ⟨_, rfl⟩
        have hXz : X ≤ w2.heap.size := by rw [← hX]; exact hb2.size
        have hsb := HS.out _ _ _ HJr.out
        have HSB : Hid (∀ b, S b → b < X ∧ ¬ (b = Bn ∨ b = 0)) := by rw [← hX]; exact hsb
        have HJ2 : Hid (J pre.length S w2) := HJ.out _ _ _ _ HJr.out hb2
        have HB2 : Hid (Blk w2 Bn 9 [.string c]) := HBr.out.kept (hb2.block Bn HBr.out.lt)
        have HT2 : Hid (TabAt w2) := HTr.out.below hb2
        clear hrd hb2 HJr HBr HTr HRD hsb c0 hX
        have hbx : Blk (w2.alloc (.cells (stA r enc h' n') 103)) w2.heap.size 103 (stA r enc h' n').toList := by
          have := Blk.new w2 103 (stA r enc h' n').toList
          exact this
        have hb3 : Below w2.heap.size w2 (w2.alloc (.cells (stA r enc h' n') 103)) := (Below.refl _ w2).alloc (Nat.le_refl _) _
        have HBX := Lib.hid hbx
        have HJ3 : Hid (J pre.length S (w2.alloc (.cells (stA r enc h' n') 103))) := HJ.out _ _ _ _ HJ2.out hb3
        have HB3 : Hid (Blk (w2.alloc (.cells (stA r enc h' n') 103)) Bn 9 [.string c]) := HB2.out.alloc _
        have HT3 : Hid (TabAt (w2.alloc (.cells (stA r enc h' n') 103))) := HT2.out.below hb3
        dsimp only [stA] at HBX HJ3 HB3 HT3
        clear hbx hb3 HJ2 HB2 HT2
        obtain ⟨ok, hok⟩ : ∃ ok, (readP c.data.toList a hd).isSome = ok := ⟨_, rfl⟩
        have HOK := Lib.hid hok
        rw [hok]
        dsimp only [stA]
        clear hok
        obtain ⟨Y, hYY⟩ : ∃ Y, w2.heap.size = Y := ⟨_, rfl⟩
        rw [hYY] at HBX hXz
        have HYE := Lib.hid hYY
        clear hYY
        have c0 := HB3.out.cell 0
        have x0 := HBX.out.cell 0
        have x1 := HBX.out.cell 1
        have x2 := HBX.out.cell 2
        have x3 := HBX.out.cell 3
        have x4 := HBX.out.cell 4
        have x5 := HBX.out.cell 5
        have x6 := HBX.out.cell 6
        have x7 := HBX.out.cell 7
        have x8 := HBX.out.cell 8
        simp only [List.getElem?_cons_zero, List.getElem?_cons_succ] at c0 x0 x1 x2 x3 x4 x5 x6 x7 x8
        cases ok with
        | false =>
          have hnone : readP c.data.toList a hd = none := by
            cases hr : readP c.data.toList a hd with
            | none => rfl
            | some r0 => rw [hr] at HOK; cases HOK.out
          obtain ⟨e1, e2⟩ := HI.out.bad HZ1.out hnone
          have hj : J items.length S (w2.alloc (.cells #[.int .i64 r.ch, .int .i64 r.rg, .int .i64 r.fr, .int .i64 r.fs, .int .i64 r.it, .int .i64 r.ix, .string enc, .string h', .int .i64 n'] 103)) := by rw [e1]; exact HJ3.out
          obtain ⟨fn, tmps, assign, body, hy, hR⟩ := HYZ.out ⟨r, enc, h', n', false⟩ S _ e2 rfl hj
          dsimp only [sxEncs, stA] at hy
          have HR := Lib.hid hR
          have E2 := Lib.hid e2
          clear hR e1 e2 hnone hj
          gi_wp2
          refine HR.out.mono ?_
          rintro e w4 ⟨rfl, hj4⟩
          clear c0 x0 x1 x2 x3 x4 x5 x6 x7 x8
          gi_wp2
          refine bodyPost_ret (results_none rfl _ _ _) rfl ?_
          exact ⟨⟨_, rfl⟩, .inr ⟨E2.out, hj4⟩⟩
        | true =>
          obtain ⟨r0, h0, e0, hr0⟩ : ∃ r0 h0 e0, readP c.data.toList a hd = some (r0, h0, e0) := by
            cases hr : readP c.data.toList a hd with
            | none => rw [hr] at HOK; cases HOK.out
            | some q => exact ⟨q.1, q.2.1, q.2.2, rfl⟩
          obtain ⟨rfl, rfl, rfl, rfl⟩ := HRR.out r0 h0 e0 hr0
          obtain ⟨i1, g, i2⟩ := HI.out.next HZ1.out hr0
          have hle := (readP_back hr0).2.2.1
          have hbd := storedL_bd hd r
          obtain ⟨fn, tmps, assign, body, hy, hR⟩ := HY.out pre.length S _ _ HJ3.out i1
          dsimp only [sxEncs, stA] at hy
          have HR := Lib.hid hR
          have I2 := Lib.hid i2
          have hea : a + 33 ≤ e0 := by omega
          have hel : e0 ≤ c.size := by have := (readP_back hr0).2.2.2.2; rw [blen] at this; exact this
          clear hR i1 i2 hr0 hle hbd HRR HOK
          gi_wp2
          refine HR.out.mono ?_
          rintro e w4 ⟨rfl, ⟨S', hj4⟩, hk4⟩
          have hnS : ¬ S Y := fun h => by have := (HSB.out Y h).1; omega
          have HBX4 := Lib.hid (HBX.out.kpS hk4 hnS)
          have HB4 := Lib.hid (HB3.out.kpS hk4 (fun h => (HSB.out Bn h).2 (.inl rfl)))
          have HT4 := Lib.hid (HT3.out.kpS hk4 (fun h => (HSB.out _ h).2 (.inr rfl)))
          have HJ4 : Hid (J (pre ++ [(⟨r, encB r, h', (e0 : Int), true⟩ : SX)]).length S' w4.drew) := by
            rw [List.length_append, List.length_singleton]
            exact HJ.out _ _ _ _ hj4 (Below.refl _ w4).drew
          clear c0 x0 x1 x2 x3 x4 x5 x6 x7 x8 hj4 hk4 HBX HB3 HT3 HJ3 hnS
          have x7 := HBX4.out.cell 7
          have x8 := HBX4.out.cell 8
          simp only [List.getElem?_cons_zero, List.getElem?_cons_succ] at x7 x8
          rw [HYE.out]
          gi_wp2
          gi_region
          all_goals
            gi_wp2
            go_roundw
            case rel => exact ⟨pre ++ [⟨r, encB r, h', (e0 : Int), true⟩], g, e0, h', S', rfl, rfl, I2, HJ4, HB4.out.drew, HT4.out.below (Below.refl _ _).drew⟩
            case measure => simp [intOf]; omega
    · have q1 : ¬ (a : Int) < c.size := by omega
      obtain ⟨e1, e2⟩ := HI.out.stop (by rw [List.getD_eq_getElem?_getD, List.getElem?_eq_none (by rw [blen]; omega)]; rfl)
      have E1 := Lib.hid e1
      have E2 := Lib.hid e2
      clear e1 e2
      gi_wp2
      refine bodyPost_end (results_none rfl _ _ _) rfl ?_
      exact ⟨⟨_, rfl⟩, .inl ⟨E2.out, S, by rw [E1.out]; exact HJr.out⟩⟩
end Go.Proofs.YtfpcdlpfmlaakaaGreatDoor
