/-
  The walk of the law AsrunBinding.
-/
import Derived.Deep.CutBlock
import Derived.Deep.DeepCutAuto
import Derived.Laws.StructEq
import Derived.Test.YtfpcdlpfmlaakaaDoorAsBind
import Derived.Test.YtfpcdlpfmlaakaaDoorEnVa
set_option linter.unusedVariables false
set_option linter.unusedSimpArgs false
namespace Go.Proofs.YtfpcdlpfmlaakaaDoor
open Go.RowKit Onair
attribute [local go_sem ↓] Go.wp_at_zero Go.wp_at_succ
theorem drew_bB (W : World) : Below W.heap.size W W.drew := (Below.refl _ _).drew
theorem bn_leB {N : Nat} {w W : World} (hN : w.heap.size = N) (hb : Below N w W) : N ≤ W.heap.size := hN ▸ hb.size
theorem s24 {wC : World} {M4 M5 U I al : Nat} {L4 : List Value} {y0 y1 y2 y3 y4 y5 iy ny r0 r1 r2 r3 r4 r5 : Int} {sy sl : ByteArray} {oy op oA : Option Addr} {yn cy pn cp : Nat} {A1 : List ByteArray} {W : World} (hP : Hid (∀ W, Below wC.heap.size wC W → Blk W U 45 [.int .i64 r0, .int .i64 r1, .int .i64 r2, .int .i64 r3, .int .i64 r4, .int .i64 r5, .int .i64 (I : Int), .int .i64 (al : Int), .string sl, .slice op pn cp])) (h : BK wC [(M5, 45, [.int .i64 y0, .int .i64 y1, .int .i64 y2, .int .i64 y3, .int .i64 y4, .int .i64 y5, .int .i64 iy, .int .i64 ny, .string sy, .slice oy yn cy]), (M4, 45, L4)] W) (hA : RdS W oA A1) : W.cell? ⟨M5, 0, none⟩ = some (.int .i64 y0) ∧ W.cell? ⟨M5, 1, none⟩ = some (.int .i64 y1) ∧ W.cell? ⟨M5, 2, none⟩ = some (.int .i64 y2) ∧ W.cell? ⟨M5, 3, none⟩ = some (.int .i64 y3) ∧ W.cell? ⟨M5, 4, none⟩ = some (.int .i64 y4) ∧ W.cell? ⟨M5, 5, none⟩ = some (.int .i64 y5) ∧ W.cell? ⟨M5, 6, none⟩ = some (.int .i64 iy) ∧ W.cell? ⟨M5, 7, none⟩ = some (.int .i64 ny) ∧ W.cell? ⟨M5, 8, none⟩ = some (.string sy) ∧ W.cell? ⟨M5, 9, none⟩ = some (.slice oy yn cy) ∧ W.cell? ⟨U, 0, none⟩ = some (.int .i64 r0) ∧ W.cell? ⟨U, 1, none⟩ = some (.int .i64 r1) ∧ W.cell? ⟨U, 2, none⟩ = some (.int .i64 r2) ∧ W.cell? ⟨U, 3, none⟩ = some (.int .i64 r3) ∧ W.cell? ⟨U, 4, none⟩ = some (.int .i64 r4) ∧ W.cell? ⟨U, 5, none⟩ = some (.int .i64 r5) ∧ W.cell? ⟨U, 6, none⟩ = some (.int .i64 (I : Int)) ∧ W.cell? ⟨U, 7, none⟩ = some (.int .i64 (al : Int)) ∧ W.cell? ⟨U, 8, none⟩ = some (.string sl) ∧ W.cell? ⟨U, 9, none⟩ = some (.slice op pn cp) ∧ Hid (BK wC [(M5, 45, [.int .i64 y0, .int .i64 y1, .int .i64 y2, .int .i64 y3, .int .i64 y4, .int .i64 y5, .int .i64 iy, .int .i64 ny, .string sy, .slice oy yn cy]), (M4, 45, L4)] W) ∧ Hid (RdS W oA A1) :=
  ⟨(h.at 0 rfl).cell 0, (h.at 0 rfl).cell 1, (h.at 0 rfl).cell 2, (h.at 0 rfl).cell 3, (h.at 0 rfl).cell 4, (h.at 0 rfl).cell 5, (h.at 0 rfl).cell 6, (h.at 0 rfl).cell 7, (h.at 0 rfl).cell 8, (h.at 0 rfl).cell 9, (hP.out W h.bel).cell 0, (hP.out W h.bel).cell 1, (hP.out W h.bel).cell 2, (hP.out W h.bel).cell 3, (hP.out W h.bel).cell 4, (hP.out W h.bel).cell 5, (hP.out W h.bel).cell 6, (hP.out W h.bel).cell 7, (hP.out W h.bel).cell 8, (hP.out W h.bel).cell 9, h, hA⟩
theorem s24n {wC : World} {M4 M5 U I al : Nat} {L4 : List Value} {y0 y1 y2 y3 y4 y5 iy ny r0 r1 r2 r3 r4 r5 : Int} {sy sl : ByteArray} {oy op oA : Option Addr} {yn cy pn cp : Nat} {A1 : List ByteArray} {W : World} {W' : World} (hP : Hid (∀ W, Below wC.heap.size wC W → Blk W U 45 [.int .i64 r0, .int .i64 r1, .int .i64 r2, .int .i64 r3, .int .i64 r4, .int .i64 r5, .int .i64 (I : Int), .int .i64 (al : Int), .string sl, .slice op pn cp])) (hb : Below W.heap.size W W') (h : W.cell? ⟨M5, 0, none⟩ = some (.int .i64 y0) ∧ W.cell? ⟨M5, 1, none⟩ = some (.int .i64 y1) ∧ W.cell? ⟨M5, 2, none⟩ = some (.int .i64 y2) ∧ W.cell? ⟨M5, 3, none⟩ = some (.int .i64 y3) ∧ W.cell? ⟨M5, 4, none⟩ = some (.int .i64 y4) ∧ W.cell? ⟨M5, 5, none⟩ = some (.int .i64 y5) ∧ W.cell? ⟨M5, 6, none⟩ = some (.int .i64 iy) ∧ W.cell? ⟨M5, 7, none⟩ = some (.int .i64 ny) ∧ W.cell? ⟨M5, 8, none⟩ = some (.string sy) ∧ W.cell? ⟨M5, 9, none⟩ = some (.slice oy yn cy) ∧ W.cell? ⟨U, 0, none⟩ = some (.int .i64 r0) ∧ W.cell? ⟨U, 1, none⟩ = some (.int .i64 r1) ∧ W.cell? ⟨U, 2, none⟩ = some (.int .i64 r2) ∧ W.cell? ⟨U, 3, none⟩ = some (.int .i64 r3) ∧ W.cell? ⟨U, 4, none⟩ = some (.int .i64 r4) ∧ W.cell? ⟨U, 5, none⟩ = some (.int .i64 r5) ∧ W.cell? ⟨U, 6, none⟩ = some (.int .i64 (I : Int)) ∧ W.cell? ⟨U, 7, none⟩ = some (.int .i64 (al : Int)) ∧ W.cell? ⟨U, 8, none⟩ = some (.string sl) ∧ W.cell? ⟨U, 9, none⟩ = some (.slice op pn cp) ∧ Hid (BK wC [(M5, 45, [.int .i64 y0, .int .i64 y1, .int .i64 y2, .int .i64 y3, .int .i64 y4, .int .i64 y5, .int .i64 iy, .int .i64 ny, .string sy, .slice oy yn cy]), (M4, 45, L4)] W) ∧ Hid (RdS W oA A1)) : W'.cell? ⟨M5, 0, none⟩ = some (.int .i64 y0) ∧ W'.cell? ⟨M5, 1, none⟩ = some (.int .i64 y1) ∧ W'.cell? ⟨M5, 2, none⟩ = some (.int .i64 y2) ∧ W'.cell? ⟨M5, 3, none⟩ = some (.int .i64 y3) ∧ W'.cell? ⟨M5, 4, none⟩ = some (.int .i64 y4) ∧ W'.cell? ⟨M5, 5, none⟩ = some (.int .i64 y5) ∧ W'.cell? ⟨M5, 6, none⟩ = some (.int .i64 iy) ∧ W'.cell? ⟨M5, 7, none⟩ = some (.int .i64 ny) ∧ W'.cell? ⟨M5, 8, none⟩ = some (.string sy) ∧ W'.cell? ⟨M5, 9, none⟩ = some (.slice oy yn cy) ∧ W'.cell? ⟨U, 0, none⟩ = some (.int .i64 r0) ∧ W'.cell? ⟨U, 1, none⟩ = some (.int .i64 r1) ∧ W'.cell? ⟨U, 2, none⟩ = some (.int .i64 r2) ∧ W'.cell? ⟨U, 3, none⟩ = some (.int .i64 r3) ∧ W'.cell? ⟨U, 4, none⟩ = some (.int .i64 r4) ∧ W'.cell? ⟨U, 5, none⟩ = some (.int .i64 r5) ∧ W'.cell? ⟨U, 6, none⟩ = some (.int .i64 (I : Int)) ∧ W'.cell? ⟨U, 7, none⟩ = some (.int .i64 (al : Int)) ∧ W'.cell? ⟨U, 8, none⟩ = some (.string sl) ∧ W'.cell? ⟨U, 9, none⟩ = some (.slice op pn cp) ∧ Hid (BK wC [(M5, 45, [.int .i64 y0, .int .i64 y1, .int .i64 y2, .int .i64 y3, .int .i64 y4, .int .i64 y5, .int .i64 iy, .int .i64 ny, .string sy, .slice oy yn cy]), (M4, 45, L4)] W') ∧ Hid (RdS W' oA A1) :=
  s24 hP (h.2.2.2.2.2.2.2.2.2.2.2.2.2.2.2.2.2.2.2.2.1.out.next hb) (h.2.2.2.2.2.2.2.2.2.2.2.2.2.2.2.2.2.2.2.2.2.out.kept hb)
theorem s24b {wC : World} {M4 M5 U I al : Nat} {L4 : List Value} {y0 y1 y2 y3 y4 y5 iy ny r0 r1 r2 r3 r4 r5 : Int} {sy sl : ByteArray} {oy op oA : Option Addr} {yn cy pn cp : Nat} {A1 : List ByteArray} {W : World} (h : W.cell? ⟨M5, 0, none⟩ = some (.int .i64 y0) ∧ W.cell? ⟨M5, 1, none⟩ = some (.int .i64 y1) ∧ W.cell? ⟨M5, 2, none⟩ = some (.int .i64 y2) ∧ W.cell? ⟨M5, 3, none⟩ = some (.int .i64 y3) ∧ W.cell? ⟨M5, 4, none⟩ = some (.int .i64 y4) ∧ W.cell? ⟨M5, 5, none⟩ = some (.int .i64 y5) ∧ W.cell? ⟨M5, 6, none⟩ = some (.int .i64 iy) ∧ W.cell? ⟨M5, 7, none⟩ = some (.int .i64 ny) ∧ W.cell? ⟨M5, 8, none⟩ = some (.string sy) ∧ W.cell? ⟨M5, 9, none⟩ = some (.slice oy yn cy) ∧ W.cell? ⟨U, 0, none⟩ = some (.int .i64 r0) ∧ W.cell? ⟨U, 1, none⟩ = some (.int .i64 r1) ∧ W.cell? ⟨U, 2, none⟩ = some (.int .i64 r2) ∧ W.cell? ⟨U, 3, none⟩ = some (.int .i64 r3) ∧ W.cell? ⟨U, 4, none⟩ = some (.int .i64 r4) ∧ W.cell? ⟨U, 5, none⟩ = some (.int .i64 r5) ∧ W.cell? ⟨U, 6, none⟩ = some (.int .i64 (I : Int)) ∧ W.cell? ⟨U, 7, none⟩ = some (.int .i64 (al : Int)) ∧ W.cell? ⟨U, 8, none⟩ = some (.string sl) ∧ W.cell? ⟨U, 9, none⟩ = some (.slice op pn cp) ∧ Hid (BK wC [(M5, 45, [.int .i64 y0, .int .i64 y1, .int .i64 y2, .int .i64 y3, .int .i64 y4, .int .i64 y5, .int .i64 iy, .int .i64 ny, .string sy, .slice oy yn cy]), (M4, 45, L4)] W) ∧ Hid (RdS W oA A1)) : Below wC.heap.size wC W := h.2.2.2.2.2.2.2.2.2.2.2.2.2.2.2.2.2.2.2.2.1.out.bel
theorem s24k {wC : World} {M4 M5 U I al : Nat} {L4 : List Value} {y0 y1 y2 y3 y4 y5 iy ny r0 r1 r2 r3 r4 r5 : Int} {sy sl : ByteArray} {oy op oA : Option Addr} {yn cy pn cp : Nat} {A1 : List ByteArray} {W : World} (h : W.cell? ⟨M5, 0, none⟩ = some (.int .i64 y0) ∧ W.cell? ⟨M5, 1, none⟩ = some (.int .i64 y1) ∧ W.cell? ⟨M5, 2, none⟩ = some (.int .i64 y2) ∧ W.cell? ⟨M5, 3, none⟩ = some (.int .i64 y3) ∧ W.cell? ⟨M5, 4, none⟩ = some (.int .i64 y4) ∧ W.cell? ⟨M5, 5, none⟩ = some (.int .i64 y5) ∧ W.cell? ⟨M5, 6, none⟩ = some (.int .i64 iy) ∧ W.cell? ⟨M5, 7, none⟩ = some (.int .i64 ny) ∧ W.cell? ⟨M5, 8, none⟩ = some (.string sy) ∧ W.cell? ⟨M5, 9, none⟩ = some (.slice oy yn cy) ∧ W.cell? ⟨U, 0, none⟩ = some (.int .i64 r0) ∧ W.cell? ⟨U, 1, none⟩ = some (.int .i64 r1) ∧ W.cell? ⟨U, 2, none⟩ = some (.int .i64 r2) ∧ W.cell? ⟨U, 3, none⟩ = some (.int .i64 r3) ∧ W.cell? ⟨U, 4, none⟩ = some (.int .i64 r4) ∧ W.cell? ⟨U, 5, none⟩ = some (.int .i64 r5) ∧ W.cell? ⟨U, 6, none⟩ = some (.int .i64 (I : Int)) ∧ W.cell? ⟨U, 7, none⟩ = some (.int .i64 (al : Int)) ∧ W.cell? ⟨U, 8, none⟩ = some (.string sl) ∧ W.cell? ⟨U, 9, none⟩ = some (.slice op pn cp) ∧ Hid (BK wC [(M5, 45, [.int .i64 y0, .int .i64 y1, .int .i64 y2, .int .i64 y3, .int .i64 y4, .int .i64 y5, .int .i64 iy, .int .i64 ny, .string sy, .slice oy yn cy]), (M4, 45, L4)] W) ∧ Hid (RdS W oA A1)) : BK wC [(M5, 45, [.int .i64 y0, .int .i64 y1, .int .i64 y2, .int .i64 y3, .int .i64 y4, .int .i64 y5, .int .i64 iy, .int .i64 ny, .string sy, .slice oy yn cy]), (M4, 45, L4)] W := h.2.2.2.2.2.2.2.2.2.2.2.2.2.2.2.2.2.2.2.2.1.out
theorem s24r {wC : World} {M4 M5 U I al : Nat} {L4 : List Value} {y0 y1 y2 y3 y4 y5 iy ny r0 r1 r2 r3 r4 r5 : Int} {sy sl : ByteArray} {oy op oA : Option Addr} {yn cy pn cp : Nat} {A1 : List ByteArray} {W : World} (h : W.cell? ⟨M5, 0, none⟩ = some (.int .i64 y0) ∧ W.cell? ⟨M5, 1, none⟩ = some (.int .i64 y1) ∧ W.cell? ⟨M5, 2, none⟩ = some (.int .i64 y2) ∧ W.cell? ⟨M5, 3, none⟩ = some (.int .i64 y3) ∧ W.cell? ⟨M5, 4, none⟩ = some (.int .i64 y4) ∧ W.cell? ⟨M5, 5, none⟩ = some (.int .i64 y5) ∧ W.cell? ⟨M5, 6, none⟩ = some (.int .i64 iy) ∧ W.cell? ⟨M5, 7, none⟩ = some (.int .i64 ny) ∧ W.cell? ⟨M5, 8, none⟩ = some (.string sy) ∧ W.cell? ⟨M5, 9, none⟩ = some (.slice oy yn cy) ∧ W.cell? ⟨U, 0, none⟩ = some (.int .i64 r0) ∧ W.cell? ⟨U, 1, none⟩ = some (.int .i64 r1) ∧ W.cell? ⟨U, 2, none⟩ = some (.int .i64 r2) ∧ W.cell? ⟨U, 3, none⟩ = some (.int .i64 r3) ∧ W.cell? ⟨U, 4, none⟩ = some (.int .i64 r4) ∧ W.cell? ⟨U, 5, none⟩ = some (.int .i64 r5) ∧ W.cell? ⟨U, 6, none⟩ = some (.int .i64 (I : Int)) ∧ W.cell? ⟨U, 7, none⟩ = some (.int .i64 (al : Int)) ∧ W.cell? ⟨U, 8, none⟩ = some (.string sl) ∧ W.cell? ⟨U, 9, none⟩ = some (.slice op pn cp) ∧ Hid (BK wC [(M5, 45, [.int .i64 y0, .int .i64 y1, .int .i64 y2, .int .i64 y3, .int .i64 y4, .int .i64 y5, .int .i64 iy, .int .i64 ny, .string sy, .slice oy yn cy]), (M4, 45, L4)] W) ∧ Hid (RdS W oA A1)) : RdS W oA A1 := h.2.2.2.2.2.2.2.2.2.2.2.2.2.2.2.2.2.2.2.2.2.out
set_option maxHeartbeats 32000000 in
set_option maxRecDepth 100000 in
theorem walkBinding25 (w : World) (oa : Option Addr) (c : Nat) (l : List Qd) (which : Int) (rx : Rec) (ix nx : Int) (sx : ByteArray) (ox : Option Addr) (cx : Nat) (lx : List ByteArray) (wh0 : -9223372036854775808 ≤ which) (wh1 : which ≤ 9223372036854775807)
    (hlc : l.length ≤ c) (hcm : c ≤ maxLen) (hI : ∀ q ∈ l, QdI q) (hrq : RdQ w oa l) (hrx : RecI rx) (hsx : sx.size ≤ 140737488351232) (hxc : lx.length ≤ cx) (hcx : cx ≤ maxLen) (hrx2 : RdS w ox lx) (ht : TabAt w) :
    Calls Tryd.prog 6 #[.slice oa l.length c, .int .i64 which, .agg (proA rx ix nx sx (.slice ox lx.length cx))] w fun e w' => e = .returned (.bool true) ∧ Below w.heap.size w w' := by
  unfold maxLen at hcm hcx
  obtain ⟨N, hN⟩ : ∃ N, w.heap.size = N := ⟨_, rfl⟩
  have HTB : Hid (∀ W, Below N w W → TabAt W) := fun W hW => ht.below (by rw [hN]; exact hW)
  have HRX : Hid (∀ W, Below N w W → RdS W ox lx) := fun W hW => hrx2.kept (by rw [hN]; exact hW)
  have HSN : Hid (∀ W, Below N w W → Calls Tryd.prog 11 #[] W fun e w' => e = .returned (.bool true) ∧ Below W.heap.size W w') := fun W hW => by
    have := ht.below (w' := W) (by rw [hN]; exact hW)
    exact sane_any W this this.lt
  have HLA : Hid (∀ W, Below N w W → Calls Tryd.prog 19 #[.slice oa l.length c] W (LogP W (manyL l))) := fun W hW => by
    have h1 := ht.below (w' := W) (by rw [hN]; exact hW)
    exact log_any oa c l W (by unfold maxLen; omega) hI (hrq.below (by rw [hN]; exact hW)) h1 h1.lt
  have hTl : (manyL l).length ≤ 14 := by unfold manyL; rw [List.length_map, List.length_take]; omega
  have hTv := manyL_valid l
  have HNN := Lib.hid hN
  obtain ⟨ll, hll⟩ : ∃ ll, l.length = ll := ⟨_, rfl⟩
  rw [hll] at HLA ⊢
  obtain ⟨xn, hxn⟩ : ∃ xn, lx.length = xn := ⟨_, rfl⟩
  have HXN := Lib.hid hxn
  rw [hxn] at hxc ⊢
  have HR := Lib.hid hrx
  obtain ⟨x0, x1, x2, x3, x4, x5⟩ := rx
  obtain ⟨all, hall⟩ : ∃ all, manyL l = all := ⟨_, rfl⟩
  rw [hall] at HLA hTl hTv
  obtain ⟨al, hal⟩ : ∃ al, all.length = al := ⟨_, rfl⟩
  rw [hal] at hTl
  have HAL := Lib.hid hal
  have HTV := Lib.hid hTv
  dsimp only [proA]
  clear hrx hI hrq ht hll hxn hN hall hal hTv hrx2
  go_enter Tryd.func6, Tryd.ntmps6
  go_upto_region 1 with (fail)
  rw [HNN.out]
  refine gen_world (fun W9 => Below N w W9 ∧ Blk W9 N 45 [.int .i64 x0, .int .i64 x1, .int .i64 x2, .int .i64 x3, .int .i64 x4, .int .i64 x5, .int .i64 ix, .int .i64 nx, .string sx, .slice ox xn cx]) ⟨?_, ?_⟩ ?_
  · have := (Below.refl w.heap.size w).alloc (Nat.le_refl _) (.cells #[.int .i64 x0, .int .i64 x1, .int .i64 x2, .int .i64 x3, .int .i64 x4, .int .i64 x5, .int .i64 ix, .int .i64 nx, .string sx, .slice ox xn cx] 45)
    rw [HNN.out] at this
    exact this
  · have := Blk.new w 45 [.int .i64 x0, .int .i64 x1, .int .i64 x2, .int .i64 x3, .int .i64 x4, .int .i64 x5, .int .i64 ix, .int .i64 nx, .string sx, .slice ox xn cx]
    rw [HNN.out] at this
    exact this
  rintro w1 ⟨hb1, hk1⟩
  have HB1 := Lib.hid hb1
  have HK1 := Lib.hid hk1
  clear hb1 hk1
  go_wp2_with fail
  refine (HSN.out w1 HB1.out).mono ?_
  rintro e w2 ⟨rfl, hb2⟩
  have HB2 : Hid (Below N w w2) := HB1.out.trans (hb2.mono (bn_leB HNN.out HB1.out))
  have HK2 := Lib.hid (HK1.out.kept (hb2.block N HK1.out.lt))
  clear hb2 HB1 HK1 HSN
  go_wp2_with fail
  refine (HLA.out w2 HB2.out).mono ?_
  rintro e w3 ⟨b, bl, F, G, D, on, cn, rfl, hlx, _, _, hb3⟩
  rw [HAL.out]
  have HX3 := Lib.hid hlx
  have HB3 : Hid (Below N w w3) := HB2.out.trans (hb3.mono (bn_leB HNN.out HB2.out))
  have HK3 := Lib.hid (HK2.out.kept (hb3.block N HK2.out.lt))
  obtain ⟨N1, hN1⟩ : ∃ N1, w2.heap.size = N1 := ⟨_, rfl⟩
  rw [hN1] at HX3
  clear hlx hb3 HB2 HK2 HLA hN1
  by_cases h0 : al = 0
  · have q0 : ((al : Int) == 0) = true := by rw [h0]; rfl
    clear h0
    go_wp2_with fail
    go_ret
    exact ⟨rfl, by rw [HNN.out]; exact HB3.out⟩
  · have q0 : ((al : Int) == 0) = false := by rw [beq_eq_false_iff_ne]; omega
    have hpk := pickI_bd which (al : Int) (by omega)
    obtain ⟨I, hIe⟩ : ∃ I : Nat, pickI which (al : Int) = (I : Int) := ⟨(pickI which (al : Int)).toNat, by omega⟩
    have hIal : I < al := by rw [hIe] at hpk; omega
    have HPK := Lib.hid (fun W => pick_any which (al : Int) W wh0 wh1 (by omega) (by omega))
    rw [hIe] at HPK
    obtain ⟨r, hr⟩ : ∃ r, all[I]? = some r := ⟨all[I]'(by rw [HAL.out]; omega), List.getElem?_eq_getElem _⟩
    obtain ⟨x, hx⟩ : ∃ x, (entR all)[I]? = some x := ⟨(entR all)[I]'(by rw [entR_len, HAL.out]; omega), List.getElem?_eq_getElem _⟩
    have hvr := HTV.out r (List.mem_of_getElem? hr)
    have hver := ver_own hvr hr hx
    have hpr := prove_x w3 N1 b bl F G ⟨D, all, false⟩ I r x (by show all.length ≤ _; rw [HAL.out]; omega) (HTB.out _ HB3.out) HX3.out hr hx
    dsimp only at hpr
    rw [HAL.out] at hpr hver
    obtain ⟨sl, hsl⟩ : ∃ sl, x.extract 0 32 = sl := ⟨_, rfl⟩
    obtain ⟨PL, hPL⟩ : ∃ PL, proofL (entR all) I = PL := ⟨_, rfl⟩
    obtain ⟨RR, hRR⟩ : ∃ RR, rootL (entR all) = RR := ⟨_, rfl⟩
    rw [hsl, hPL] at hpr hver
    rw [hRR] at hver
    have HRR := Lib.hid hRR
    obtain ⟨pn, hpn⟩ : ∃ pn, PL.length = pn := ⟨_, rfl⟩
    have hpnb : pn ≤ 14 := by
      have := proofL_len (entR all) I
      rw [hPL, hpn, entR_len, HAL.out] at this
      omega
    have HPN := Lib.hid hpn
    have HPR := Lib.hid hpr
    have HVER := Lib.hid hver
    have HVR := Lib.hid hvr
    obtain ⟨_, hsl32, _, _⟩ := verA_path hver
    clear h0 hpk hIe hr hx hpr hsl hPL hRR hpn hver hvr wh0 wh1
    obtain ⟨r0, r1, r2, r3, r4, r5⟩ := r
    go_wp2_with fail
    refine (HPK.out _).mono ?_
    rintro e w' ⟨rfl, rfl⟩
    go_wp2_with fail
    refine HPR.out.mono ?_
    rintro e w4 ⟨op, cp, he, hown, hb4⟩
    rw [HPN.out] at he
    dsimp only [proA] at he
    subst he
    have HX4 := Lib.hid (HX3.out.below hb4)
    have HB4 : Hid (Below N w w4) := HB3.out.trans (hb4.mono (bn_leB HNN.out HB3.out))
    have HK4 := Lib.hid (HK3.out.kept (hb4.block N HK3.out.lt))
    obtain ⟨hzz, hpc, hpm, hrd4⟩ := own_rds hown
    clear hzz
    rw [HPN.out] at hpc
    have HRD4 := Lib.hid hrd4
    clear hown hb4 hrd4 HX3 HB3 HK3 HPK HPR
    obtain ⟨U, hU⟩ : ∃ U, w4.heap.size = U := ⟨_, rfl⟩
    have HU := Lib.hid hU
    have hNU : N < U := by rw [← hU]; exact HK4.out.lt
    clear hU
    -- what holds in every later world
    have HBN : Hid (∀ W, Below w4.heap.size w4 W → Below N w W) := fun W hW => HB4.out.trans (hW.mono (bn_leB HNN.out HB4.out))
    have HRAW : Hid (∀ W, Below w4.heap.size w4 W → Blk W N 45 [.int .i64 x0, .int .i64 x1, .int .i64 x2, .int .i64 x3, .int .i64 x4, .int .i64 x5, .int .i64 ix, .int .i64 nx, .string sx, .slice ox xn cx]) := fun W hW => HK4.out.kept (hW.block N HK4.out.lt)
    have HRDP : Hid (∀ W, Below w4.heap.size w4 W → RdS W op PL) := fun W hW => HRD4.out.kept hW
    have HLX : Hid (∀ W, Below w4.heap.size w4 W → LX W N1 b bl F G ⟨D, all, false⟩) := fun W hW => HX4.out.below hW
    clear HK4 HRD4 HX4 HB4
    go_upto_region 7 with (fail)
    rw [HU.out]
    refine gen_world (fun W9 => BK w4 [(U, 45, [.int .i64 r0, .int .i64 r1, .int .i64 r2, .int .i64 r3, .int .i64 r4, .int .i64 r5, .int .i64 (I : Int), .int .i64 (al : Int), .string sl, .slice op pn cp])] W9) ?_ ?_
    · have := (BK.nil w4).add 45 [.int .i64 r0, .int .i64 r1, .int .i64 r2, .int .i64 r3, .int .i64 r4, .int .i64 r5, .int .i64 (I : Int), .int .i64 (al : Int), .string sl, .slice op pn cp]
      rw [HU.out] at this
      exact this
    rintro w5 hk5
    have HK5 := Lib.hid hk5
    clear hk5
    obtain ⟨M, hM⟩ : ∃ M, w5.heap.size = M := ⟨_, rfl⟩
    have HM := Lib.hid hM
    have hUM : U < M := by rw [← hM]; exact (HK5.out.at 0 rfl).lt
    clear hM
    have c0 := (HRAW.out w5 HK5.out.bel).cell 0
    have c1 := (HRAW.out w5 HK5.out.bel).cell 1
    have c2 := (HRAW.out w5 HK5.out.bel).cell 2
    have c3 := (HRAW.out w5 HK5.out.bel).cell 3
    have c4 := (HRAW.out w5 HK5.out.bel).cell 4
    have c5 := (HRAW.out w5 HK5.out.bel).cell 5
    have c6 := (HRAW.out w5 HK5.out.bel).cell 6
    have c7 := (HRAW.out w5 HK5.out.bel).cell 7
    have c8 := (HRAW.out w5 HK5.out.bel).cell 8
    have c9 := (HRAW.out w5 HK5.out.bel).cell 9
    simp only [List.getElem?_cons_zero, List.getElem?_cons_succ] at c0 c1 c2 c3 c4 c5 c6 c7 c8 c9
    go_upto_region 10 with (fail)
    rw [HM.out]
    refine gen_world (fun W9 => BK w4 [(M, 45, [.int .i64 x0, .int .i64 x1, .int .i64 x2, .int .i64 x3, .int .i64 x4, .int .i64 x5, .int .i64 ix, .int .i64 nx, .string sx, .slice ox xn cx]), (U, 45, [.int .i64 r0, .int .i64 r1, .int .i64 r2, .int .i64 r3, .int .i64 r4, .int .i64 r5, .int .i64 (I : Int), .int .i64 (al : Int), .string sl, .slice op pn cp])] W9) ?_ ?_
    · have := HK5.out.add 45 [.int .i64 x0, .int .i64 x1, .int .i64 x2, .int .i64 x3, .int .i64 x4, .int .i64 x5, .int .i64 ix, .int .i64 nx, .string sx, .slice ox xn cx]
      rw [HM.out] at this
      exact this
    rintro w6 hk6
    have HK6 := Lib.hid hk6
    have HMU : Hid (∀ p ∈ [(U, 45, ([.int .i64 r0, .int .i64 r1, .int .i64 r2, .int .i64 r3, .int .i64 r4, .int .i64 r5, .int .i64 (I : Int), .int .i64 (al : Int), .string sl, .slice op pn cp] : List Value))], p.1 ≠ M) := fun p hp => by
      simp only [List.mem_singleton] at hp
      subst hp
      show U ≠ M
      omega
    have HUM : Hid (w4.heap.size ≤ M) := (show _ ≤ _ from by rw [HU.out]; omega)
    have ne1 : ¬ U = M := by omega
    have ne2 : ¬ M = U := by omega
    have ne3 : ¬ N = M := by omega
    have ne4 : ¬ M = N := by omega
    clear hk6 HK5 HM c0 c1 c2 c3 c4 c5 c6 c7 c8 c9
    have p6 := (HK6.out.at 1 rfl).cell 6
    simp only [List.getElem?_cons_zero, List.getElem?_cons_succ] at p6
    have q6 := (HK6.out.at 0 rfl).cell 6
    simp only [List.getElem?_cons_zero, List.getElem?_cons_succ] at q6
    have fq6 := (HK6.out.at 0 rfl).frozen 6
    go_upto_region 11 with (fail)
    refine gen_world (fun W9 => BK w4 [(M, 45, [.int .i64 x0, .int .i64 x1, .int .i64 x2, .int .i64 x3, .int .i64 x4, .int .i64 x5, .int .i64 (I : Int), .int .i64 nx, .string sx, .slice ox xn cx]), (U, 45, [.int .i64 r0, .int .i64 r1, .int .i64 r2, .int .i64 r3, .int .i64 r4, .int .i64 r5, .int .i64 (I : Int), .int .i64 (al : Int), .string sl, .slice op pn cp])] W9) ?_ ?_
    · exact HK6.out.set 6 (.int .i64 (I : Int)) HUM.out HMU.out
    rintro w7 hk7
    have HK7 := Lib.hid hk7
    clear hk7 HK6 p6 q6 fq6
    have p7 := (HK7.out.at 1 rfl).cell 7
    simp only [List.getElem?_cons_zero, List.getElem?_cons_succ] at p7
    have q7 := (HK7.out.at 0 rfl).cell 7
    simp only [List.getElem?_cons_zero, List.getElem?_cons_succ] at q7
    have fq7 := (HK7.out.at 0 rfl).frozen 7
    go_upto_region 12 with (fail)
    refine gen_world (fun W9 => BK w4 [(M, 45, [.int .i64 x0, .int .i64 x1, .int .i64 x2, .int .i64 x3, .int .i64 x4, .int .i64 x5, .int .i64 (I : Int), .int .i64 (al : Int), .string sx, .slice ox xn cx]), (U, 45, [.int .i64 r0, .int .i64 r1, .int .i64 r2, .int .i64 r3, .int .i64 r4, .int .i64 r5, .int .i64 (I : Int), .int .i64 (al : Int), .string sl, .slice op pn cp])] W9) ?_ ?_
    · exact HK7.out.set 7 (.int .i64 (al : Int)) HUM.out HMU.out
    rintro w8 hk8
    have HK8 := Lib.hid hk8
    clear hk8 HK7 p7 q7 fq7
    obtain ⟨US, hUS⟩ : ∃ US, sx ++ sl = US := ⟨_, rfl⟩
    have hUz : US.size = sx.size + 32 := by rw [← hUS, ByteArray.size_append, hsl32]
    have hU32 : 32 ≤ US.size := by omega
    have hU32I : (32 : Int) ≤ (US.size : Int) := by omega
    obtain ⟨T, hT⟩ : ∃ T, US.extract 0 32 = T := ⟨_, rfl⟩
    have hTz : T.size = 32 := by rw [← hT, ByteArray.size_extract]; omega
    have hsum : ¬ (sx.size + sl.size > 9223372036854775807) := by omega
    have hsum2 : ¬ (9223372036854775807 < sx.size + sl.size) := by omega
    have HTZ := Lib.hid hTz
    have HSL := Lib.hid hsl32
    have hslle : sl.size ≤ 32 := by omega
    clear hUz hTz hsl32
    have x8 := (HRAW.out w8 HK8.out.bel).cell 8
    simp only [List.getElem?_cons_zero, List.getElem?_cons_succ] at x8
    have p8 := (HK8.out.at 1 rfl).cell 8
    simp only [List.getElem?_cons_zero, List.getElem?_cons_succ] at p8
    have q8 := (HK8.out.at 0 rfl).cell 8
    simp only [List.getElem?_cons_zero, List.getElem?_cons_succ] at q8
    have fq8 := (HK8.out.at 0 rfl).frozen 8
    go_upto_region 13 with (fail)
    refine gen_world (fun W9 => BK w4 [(M, 45, [.int .i64 x0, .int .i64 x1, .int .i64 x2, .int .i64 x3, .int .i64 x4, .int .i64 x5, .int .i64 (I : Int), .int .i64 (al : Int), .string T, .slice ox xn cx]), (U, 45, [.int .i64 r0, .int .i64 r1, .int .i64 r2, .int .i64 r3, .int .i64 r4, .int .i64 r5, .int .i64 (I : Int), .int .i64 (al : Int), .string sl, .slice op pn cp])] W9) ?_ ?_
    · exact HK8.out.set 8 (.string T) HUM.out HMU.out
    rintro w9 hk9
    have HK9 := Lib.hid hk9
    clear hk9 HK8 x8 p8 q8 fq8 hUS hU32 hU32I hT hsum hsum2
    -- the path of the first proof
    obtain ⟨D0, hD0⟩ : ∃ D0, w9.heap.size = D0 := ⟨_, rfl⟩
    have hMD : M < D0 := by rw [← hD0]; exact (HK9.out.at 0 rfl).lt
    have ho0 := own_new w9 [] (by simp)
    have hb10 : Below w4.heap.size w4 (w9.alloc (.cells #[] 9)) := HK9.out.bel.alloc HK9.out.bel.size _
    obtain ⟨oq, cq, wA, hrun, hoA, hfA⟩ := app_listF (w9.alloc (.cells #[] 9)) w9.heap.size (.slice (some ⟨w9.heap.size, 0, none⟩) 0 0) [] PL op cp ho0 (HRDP.out _ hb10) (by simp) (by rw [HPN.out]; omega) 43
    rw [List.nil_append, HPN.out] at hrun
    rw [List.nil_append, HPN.out] at hoA
    have hkA : BK w4 [(M, 45, [.int .i64 x0, .int .i64 x1, .int .i64 x2, .int .i64 x3, .int .i64 x4, .int .i64 x5, .int .i64 (I : Int), .int .i64 (al : Int), .string T, .slice ox xn cx]), (U, 45, [.int .i64 r0, .int .i64 r1, .int .i64 r2, .int .i64 r3, .int .i64 r4, .int .i64 r5, .int .i64 (I : Int), .int .i64 (al : Int), .string sl, .slice op pn cp])] wA := by
      refine HK9.out.fr (B := w9.heap.size) (((Fr.refl _ w9).alloc (.cells #[] 9)).trans hfA (fun k _ hk => ?_)) HK9.out.bel.size (fun p hp => ?_)
      · simp only [Value.ownBlock, Option.map_some, Option.some.injEq] at hk
        exact Nat.le_of_eq hk
      · have := (HK9.out.blk p hp).lt
        exact this
    have HKA := Lib.hid hkA
    have HOA : Hid (OwnS D0 (.slice oq pn cq) PL wA) := by rw [← hD0]; exact hoA
    have neD1 : ¬ U = w9.heap.size := by omega
    have neD2 : U < w9.heap.size := by omega
    have HD0 := Lib.hid hD0
    clear ho0 hb10 hoA hfA hkA hD0
    have p9 := (HK9.out.at 1 rfl).cell 9
    simp only [List.getElem?_cons_zero, List.getElem?_cons_succ] at p9
    have q9 := (HKA.out.at 0 rfl).cell 9
    simp only [List.getElem?_cons_zero, List.getElem?_cons_succ] at q9
    have fq9 := (HKA.out.at 0 rfl).frozen 9
    go_upto_block 0 with (at_builtin; refine wpList_append_run _ rfl _ _ 43 rfl _ _ _ _ rfl rfl hrun ?_)
    refine gen_world (fun W9 => BK w4 [(M, 45, [.int .i64 x0, .int .i64 x1, .int .i64 x2, .int .i64 x3, .int .i64 x4, .int .i64 x5, .int .i64 (I : Int), .int .i64 (al : Int), .string T, .slice oq pn cq]), (U, 45, [.int .i64 r0, .int .i64 r1, .int .i64 r2, .int .i64 r3, .int .i64 r4, .int .i64 r5, .int .i64 (I : Int), .int .i64 (al : Int), .string sl, .slice op pn cp])] W9 ∧ OwnS D0 (.slice oq pn cq) PL W9) ⟨?_, ?_⟩ ?_
    · exact HKA.out.set 9 (.slice oq pn cq) HUM.out HMU.out
    · exact HOA.out.fr ((Fr.refl (fun k => k = M) _).setCell ⟨M, 9, none⟩ _ (.inl rfl)) (fun k hk e => by omega)
    rintro wB ⟨hkB, hoB⟩
    have HKB := Lib.hid hkB
    have HOB := Lib.hid hoB
    clear hkB hoB HKA HOA HK9 p9 q9 fq9 hrun neD1 neD2
    go_cut [] (fun wx => ∃ QL : List ByteArray, Hid (QL.length = pn) ∧ Hid (BK w4 [(M, 45, [.int .i64 x0, .int .i64 x1, .int .i64 x2, .int .i64 x3, .int .i64 x4, .int .i64 x5, .int .i64 (I : Int), .int .i64 (al : Int), .string T, .slice oq pn cq]), (U, 45, [.int .i64 r0, .int .i64 r1, .int .i64 r2, .int .i64 r3, .int .i64 r4, .int .i64 r5, .int .i64 (I : Int), .int .i64 (al : Int), .string sl, .slice op pn cp])] wx) ∧ Hid (OwnS D0 (.slice oq pn cq) QL wx))
    case first =>
      go_wp2_with fail
      go_loopw [14] (fun k wr => ∃ (kk : Nat) (QL : List ByteArray), kk ≤ pn ∧ k = .int .i64 kk ∧ Hid (QL.length = pn) ∧ Hid (BK w4 [(M, 45, [.int .i64 x0, .int .i64 x1, .int .i64 x2, .int .i64 x3, .int .i64 x4, .int .i64 x5, .int .i64 (I : Int), .int .i64 (al : Int), .string T, .slice oq pn cq]), (U, 45, [.int .i64 r0, .int .i64 r1, .int .i64 r2, .int .i64 r3, .int .i64 r4, .int .i64 r5, .int .i64 (I : Int), .int .i64 (al : Int), .string sl, .slice op pn cp])] wr) ∧ Hid (OwnS D0 (.slice oq pn cq) QL wr)) (fun k _ => pn - (intOf k).toNat)
      case atStart => exact ⟨0, PL, Nat.zero_le _, rfl, HPN, HKB, HOB⟩
      case round =>
        clear HKB HOB
        obtain ⟨kk, QL, hkk, rfl, HQN, HKr, HOr⟩ := hrel
        have cx9 := (HRAW.out wr HKr.out.bel).cell 9
        have cq9 := (HKr.out.at 0 rfl).cell 9
        simp only [List.getElem?_cons_zero, List.getElem?_cons_succ] at cx9 cq9
        by_cases h1 : kk < xn
        · have h1I : (kk : Int) < (xn : Int) := by omega
          by_cases h2 : kk < pn
          · have h2I : (kk : Int) < (pn : Int) := by omega
            obtain ⟨y, hy⟩ : ∃ y, lx[kk]? = some y := ⟨lx[kk]'(by rw [HXN.out]; exact h1), List.getElem?_eq_getElem _⟩
            obtain ⟨bx, ofx, rfl, hrb⟩ := (HRX.out wr (HBN.out wr HKr.out.bel)).some (by rw [HXN.out]; omega)
            have cy := hrb.cell kk y hy
            obtain ⟨g, rfl, hgB, hgl, hgc, hgf⟩ := HOr.out.at (by rw [HQN.out]; omega)
            have k0I : (0 : Int) ≤ (kk : Int) := by omega
            have kpq : (kk : Int) < (pn : Int) := h2I
            clear hrb hy
            by_cases hy32 : y.size = 32
            · have e1 : ((y.size : Int) == 32) = true := by rw [hy32]; rfl
              obtain ⟨yo, hyo⟩ : ∃ yo, QL[kk]? = some yo := ⟨QL[kk]'(by rw [HQN.out]; exact h2), List.getElem?_eq_getElem _⟩
              have cg := hgc kk yo hyo
              have fg := hgf kk
              have hgU : U ≤ g := by omega
              have HK2 : Hid (BK w4 [(M, 45, [.int .i64 x0, .int .i64 x1, .int .i64 x2, .int .i64 x3, .int .i64 x4, .int .i64 x5, .int .i64 (I : Int), .int .i64 (al : Int), .string T, .slice (some ⟨g, 0, none⟩) pn cq]), (U, 45, [.int .i64 r0, .int .i64 r1, .int .i64 r2, .int .i64 r3, .int .i64 r4, .int .i64 r5, .int .i64 (I : Int), .int .i64 (al : Int), .string sl, .slice op pn cp])] (wr.setCell ⟨g, kk, none⟩ (.string y))) := HKr.out.setX g kk _ (by rw [HU.out]; exact hgU) (fun p hp e => by
                simp only [List.mem_cons, List.not_mem_nil, or_false] at hp
                rcases hp with rfl | rfl
                · show False
                  have : M = g := e
                  omega
                · show False
                  have : U = g := e
                  omega)
              have HO2 : Hid (OwnS D0 (.slice (some ⟨g, 0, none⟩) pn cq) (QL.set kk y) (wr.setCell ⟨g, kk, none⟩ (.string y))) := HOr.out.setK kk y HQN.out.symm
              have HQ2 : Hid ((QL.set kk y).length = pn) := (show _ = _ from by rw [List.length_set]; exact HQN.out)
              clear hgc hgf hy32 HKr HOr HQN hyo
              go_wp2_with fail
              go_region
              all_goals
                go_wp2_with fail
                go_roundw
                case rel => exact ⟨kk + 1, QL.set kk y, by omega, by go_num, HQ2, HK2.out.next (drew_bB _), HO2.out.fr (Fr.refl (fun _ => False) _).drew (fun _ _ h => h)⟩
                case measure => simp [intOf]; omega
            · have e1 : ((y.size : Int) == 32) = false := by rw [beq_eq_false_iff_ne]; omega
              clear hgc hgf hy32
              go_wp2_with fail
              go_roundw
              case rel => exact ⟨kk + 1, QL, by omega, by go_num, HQN, HKr, HOr⟩
              case measure => simp [intOf]; omega
          · have h2I : ¬ (kk : Int) < (pn : Int) := by omega
            go_wp2_with fail
            go_meet
            exact ⟨QL, HQN, HKr, HOr⟩
        · have h1I : ¬ (kk : Int) < (xn : Int) := by omega
          go_wp2_with fail
          go_meet
          exact ⟨QL, HQN, HKr, HOr⟩
    case rest =>
      obtain ⟨QL, HQN, HKC, HOC⟩ := hcut
      obtain ⟨wC, rfl⟩ : ∃ wC : World, wC = wc := ⟨_, rfl⟩
      clear HKB HOB
      have HBC : Hid (∀ W, Below wC.heap.size wC W → Below w4.heap.size w4 W) := fun W hW => HKC.out.bel.trans (hW.mono HKC.out.bel.size)
      have HMB : Hid (∀ W, Below wC.heap.size wC W → Blk W M 45 [.int .i64 x0, .int .i64 x1, .int .i64 x2, .int .i64 x3, .int .i64 x4, .int .i64 x5, .int .i64 (I : Int), .int .i64 (al : Int), .string T, .slice oq pn cq]) := fun W hW => (HKC.out.at 0 rfl).kept (hW.block M (HKC.out.at 0 rfl).lt)
      have HUB : Hid (∀ W, Below wC.heap.size wC W → Blk W U 45 [.int .i64 r0, .int .i64 r1, .int .i64 r2, .int .i64 r3, .int .i64 r4, .int .i64 r5, .int .i64 (I : Int), .int .i64 (al : Int), .string sl, .slice op pn cp]) := fun W hW => (HKC.out.at 1 rfl).kept (hW.block U (HKC.out.at 1 rfl).lt)
      have HRQ : Hid (∀ W, Below wC.heap.size wC W → RdS W oq QL) := fun W hW => (own_rds HOC.out.1).2.2.2.kept hW
      obtain ⟨hzz, hqc, hqm, hzr⟩ := own_rds HOC.out.1
      clear hzz hzr
      obtain ⟨M3, hM3⟩ : ∃ M3, wC.heap.size = M3 := ⟨_, rfl⟩
      have HM3 := Lib.hid hM3
      have hMM3 : M < M3 := by rw [← hM3]; exact (HKC.out.at 0 rfl).lt
      have c0 := (HRAW.out wC HKC.out.bel).cell 0
      have c1 := (HRAW.out wC HKC.out.bel).cell 1
      have c2 := (HRAW.out wC HKC.out.bel).cell 2
      have c3 := (HRAW.out wC HKC.out.bel).cell 3
      have c4 := (HRAW.out wC HKC.out.bel).cell 4
      have c5 := (HRAW.out wC HKC.out.bel).cell 5
      have c6 := (HRAW.out wC HKC.out.bel).cell 6
      have c7 := (HRAW.out wC HKC.out.bel).cell 7
      have c8 := (HRAW.out wC HKC.out.bel).cell 8
      have c9 := (HRAW.out wC HKC.out.bel).cell 9
      simp only [List.getElem?_cons_zero, List.getElem?_cons_succ] at c0 c1 c2 c3 c4 c5 c6 c7 c8 c9
      clear hM3 HKC HOC
      obtain ⟨a, ha⟩ : ∃ a, min xn 5 = a := ⟨_, rfl⟩
      have hmin : min (xn : Int) 5 = (a : Int) := by omega
      have ha5 : a ≤ 5 := by omega
      have hax : a ≤ xn := by omega
      have hac : a ≤ cx := by omega
      have haI : (a : Int) ≤ (xn : Int) := by omega
      have haI0 : (0 : Int) ≤ (a : Int) := by omega
      have haIc : (a : Int) ≤ (cx : Int) := by omega
      have hxcI : (xn : Int) ≤ (cx : Int) := by omega
      clear ha
      go_upto_region 20 with (fail)
      rw [HM3.out]
      refine gen_world (fun W9 => BK wC [(M3, 45, [.int .i64 x0, .int .i64 x1, .int .i64 x2, .int .i64 x3, .int .i64 x4, .int .i64 x5, .int .i64 ix, .int .i64 nx, .string sx, .slice ox xn cx])] W9) ?_ ?_
      · have := (BK.nil wC).add 45 [.int .i64 x0, .int .i64 x1, .int .i64 x2, .int .i64 x3, .int .i64 x4, .int .i64 x5, .int .i64 ix, .int .i64 nx, .string sx, .slice ox xn cx]
        rw [HM3.out] at this
        exact this
      rintro wD hkD
      have HKD := Lib.hid hkD
      clear hkD c0 c1 c2 c3 c4 c5 c6 c7 c8 c9
      have q9 := (HKD.out.at 0 rfl).cell 9
      simp only [List.getElem?_cons_zero, List.getElem?_cons_succ] at q9
      have fq9 := (HKD.out.at 0 rfl).frozen 9
      go_upto_region 21 with (fail)
      refine gen_world (fun W9 => BK wC [(M3, 45, [.int .i64 x0, .int .i64 x1, .int .i64 x2, .int .i64 x3, .int .i64 x4, .int .i64 x5, .int .i64 ix, .int .i64 nx, .string sx, .slice ox a cx])] W9) ?_ ?_
      · exact HKD.out.set 9 (.slice ox a cx) (Nat.le_of_eq HM3.out) (fun p hp => absurd hp (by simp))
      rintro wE hkE
      have HKE := Lib.hid hkE
      obtain ⟨M4, hM4⟩ : ∃ M4, wE.heap.size = M4 := ⟨_, rfl⟩
      have HM4 := Lib.hid hM4
      clear hkE HKD q9 fq9 hM4
      have c0 := (HMB.out wE HKE.out.bel).cell 0
      have c1 := (HMB.out wE HKE.out.bel).cell 1
      have c2 := (HMB.out wE HKE.out.bel).cell 2
      have c3 := (HMB.out wE HKE.out.bel).cell 3
      have c4 := (HMB.out wE HKE.out.bel).cell 4
      have c5 := (HMB.out wE HKE.out.bel).cell 5
      have c6 := (HMB.out wE HKE.out.bel).cell 6
      have c7 := (HMB.out wE HKE.out.bel).cell 7
      have c8 := (HMB.out wE HKE.out.bel).cell 8
      have c9 := (HMB.out wE HKE.out.bel).cell 9
      simp only [List.getElem?_cons_zero, List.getElem?_cons_succ] at c0 c1 c2 c3 c4 c5 c6 c7 c8 c9
      have d0 := (HKE.out.at 0 rfl).cell 0
      have d1 := (HKE.out.at 0 rfl).cell 1
      have d2 := (HKE.out.at 0 rfl).cell 2
      have d3 := (HKE.out.at 0 rfl).cell 3
      have d4 := (HKE.out.at 0 rfl).cell 4
      have d5 := (HKE.out.at 0 rfl).cell 5
      have d6 := (HKE.out.at 0 rfl).cell 6
      have d7 := (HKE.out.at 0 rfl).cell 7
      have d8 := (HKE.out.at 0 rfl).cell 8
      have d9 := (HKE.out.at 0 rfl).cell 9
      simp only [List.getElem?_cons_zero, List.getElem?_cons_succ] at d0 d1 d2 d3 d4 d5 d6 d7 d8 d9
      go_wp2_with fail
      rw [HM4.out]
      obtain ⟨L4, hL4⟩ : ∃ L4 : List Value, [.int .i64 x0, .int .i64 x1, .int .i64 x2, .int .i64 x3, .int .i64 x4, .int .i64 x5, .int .i64 (I : Int), .int .i64 (al : Int), .string T, .slice oq pn cq, .int .i64 x0, .int .i64 x1, .int .i64 x2, .int .i64 x3, .int .i64 x4, .int .i64 x5, .int .i64 ix, .int .i64 nx, .string sx, .slice ox a cx] = L4 := ⟨_, rfl⟩
      refine gen_world (fun W9 => BK wC [(M4, 45, L4)] W9) ?_ ?_
      · rw [← hL4]
        refine ⟨(HKE.out.add 45 [.int .i64 x0, .int .i64 x1, .int .i64 x2, .int .i64 x3, .int .i64 x4, .int .i64 x5, .int .i64 (I : Int), .int .i64 (al : Int), .string T, .slice oq pn cq, .int .i64 x0, .int .i64 x1, .int .i64 x2, .int .i64 x3, .int .i64 x4, .int .i64 x5, .int .i64 ix, .int .i64 nx, .string sx, .slice ox a cx]).bel, fun p hp => ?_⟩
        have h2 := (HKE.out.add 45 [.int .i64 x0, .int .i64 x1, .int .i64 x2, .int .i64 x3, .int .i64 x4, .int .i64 x5, .int .i64 (I : Int), .int .i64 (al : Int), .string T, .slice oq pn cq, .int .i64 x0, .int .i64 x1, .int .i64 x2, .int .i64 x3, .int .i64 x4, .int .i64 x5, .int .i64 ix, .int .i64 nx, .string sx, .slice ox a cx]).at 0 rfl
        rw [HM4.out] at h2
        rcases List.mem_singleton.1 hp with rfl
        exact h2
      rintro wF hkF
      have HKF := Lib.hid hkF
      have HXA : Hid ((lx.take a).length = a) := (show _ = _ from by rw [List.length_take, HXN.out]; omega)
      have HY : Hid (∀ jj, jj < 2 → ∃ (y0 y1 y2 y3 y4 y5 iy ny : Int) (sy : ByteArray) (oy : Option Addr) (cy : Nat) (ly : List ByteArray) (yn : Nat), (∀ t, t < 10 → L4[jj * 10 + t]? = ([.int .i64 y0, .int .i64 y1, .int .i64 y2, .int .i64 y3, .int .i64 y4, .int .i64 y5, .int .i64 iy, .int .i64 ny, .string sy, .slice oy yn cy] : List Value)[t]?) ∧ RecI ⟨y0, y1, y2, y3, y4, y5⟩ ∧ sy.size ≤ maxLen ∧ ly.length = yn ∧ yn ≤ 1000000 ∧ yn ≤ cy ∧ cy ≤ 9223372036854775807 ∧ ∀ W, Below wC.heap.size wC W → RdS W oy ly) := fun jj hjj => by
        rcases (show jj = 0 ∨ jj = 1 from by omega) with rfl | rfl
        · refine ⟨x0, x1, x2, x3, x4, x5, I, al, T, oq, cq, QL, pn, fun t ht => ?_, HR.out, by unfold maxLen; have := HTZ.out; omega, HQN.out, by omega, hqc, hqm, HRQ.out⟩
          rw [← hL4]
          rcases (show t = 0 ∨ t = 1 ∨ t = 2 ∨ t = 3 ∨ t = 4 ∨ t = 5 ∨ t = 6 ∨ t = 7 ∨ t = 8 ∨ t = 9 from by omega) with rfl | rfl | rfl | rfl | rfl | rfl | rfl | rfl | rfl | rfl <;> rfl
        · refine ⟨x0, x1, x2, x3, x4, x5, ix, nx, sx, ox, cx, lx.take a, a, fun t ht => ?_, HR.out, by unfold maxLen; omega, HXA.out, by omega, hac, hcx, fun W hW => (HRX.out W (HBN.out W (HBC.out W hW))).take a⟩
          rw [← hL4]
          rcases (show t = 0 ∨ t = 1 ∨ t = 2 ∨ t = 3 ∨ t = 4 ∨ t = 5 ∨ t = 6 ∨ t = 7 ∨ t = 8 ∨ t = 9 from by omega) with rfl | rfl | rfl | rfl | rfl | rfl | rfl | rfl | rfl | rfl <;> rfl
      clear hkF HKE c0 c1 c2 c3 c4 c5 c6 c7 c8 c9 d0 d1 d2 d3 d4 d5 d6 d7 d8 d9 hL4 HMB HRQ hqc hqm hmin haI haI0 haIc hxcI
      go_loopw [112] (fun j wr => ∃ (jj : Nat), jj ≤ 2 ∧ j = .int .i64 jj ∧ Hid (BK wC [(M4, 45, L4)] wr)) (fun j _ => 2 - (intOf j).toNat)
      case atStart => exact ⟨0, Nat.zero_le _, rfl, HKF⟩
      case round =>
        clear HKF
        obtain ⟨jj, hjj, rfl, HKr⟩ := hrel
        by_cases hj2 : jj < 2
        · have hjI : (jj : Int) < 2 := by omega
          have hjI0 : (0 : Int) ≤ (jj : Int) := by omega
          obtain ⟨y0, y1, y2, y3, y4, y5, iy, ny, sy, oy, cy, ly, yn, hL, hry, hsy, hyn, hyb, hyc, hycm, hrdy⟩ := HY.out jj hj2
          have d0 : wr.cell? ⟨M4, jj * 10, none⟩ = some (.int .i64 y0) := ((HKr.out.at 0 rfl).cell (jj * 10 + 0)).trans (hL 0 (by decide))
          have d1 : wr.cell? ⟨M4, jj * 10 + 1, none⟩ = some (.int .i64 y1) := ((HKr.out.at 0 rfl).cell (jj * 10 + 1)).trans (hL 1 (by decide))
          have d2 : wr.cell? ⟨M4, jj * 10 + 2, none⟩ = some (.int .i64 y2) := ((HKr.out.at 0 rfl).cell (jj * 10 + 2)).trans (hL 2 (by decide))
          have d3 : wr.cell? ⟨M4, jj * 10 + 3, none⟩ = some (.int .i64 y3) := ((HKr.out.at 0 rfl).cell (jj * 10 + 3)).trans (hL 3 (by decide))
          have d4 : wr.cell? ⟨M4, jj * 10 + 4, none⟩ = some (.int .i64 y4) := ((HKr.out.at 0 rfl).cell (jj * 10 + 4)).trans (hL 4 (by decide))
          have d5 : wr.cell? ⟨M4, jj * 10 + 5, none⟩ = some (.int .i64 y5) := ((HKr.out.at 0 rfl).cell (jj * 10 + 5)).trans (hL 5 (by decide))
          have d6 : wr.cell? ⟨M4, jj * 10 + 6, none⟩ = some (.int .i64 iy) := ((HKr.out.at 0 rfl).cell (jj * 10 + 6)).trans (hL 6 (by decide))
          have d7 : wr.cell? ⟨M4, jj * 10 + 7, none⟩ = some (.int .i64 ny) := ((HKr.out.at 0 rfl).cell (jj * 10 + 7)).trans (hL 7 (by decide))
          have d8 : wr.cell? ⟨M4, jj * 10 + 8, none⟩ = some (.string sy) := ((HKr.out.at 0 rfl).cell (jj * 10 + 8)).trans (hL 8 (by decide))
          have d9 : wr.cell? ⟨M4, jj * 10 + 9, none⟩ = some (.slice oy yn cy) := ((HKr.out.at 0 rfl).cell (jj * 10 + 9)).trans (hL 9 (by decide))
          have HRY := Lib.hid hry
          have HRDY := Lib.hid hrdy
          have HYN := Lib.hid hyn
          obtain ⟨M5, hM5⟩ : ∃ M5, wr.heap.size = M5 := ⟨_, rfl⟩
          have HM5 := Lib.hid hM5
          clear hL hry hrdy hyn hM5
          go_upto_region 24 with (fail)
          rw [HM5.out]
          refine gen_world (fun W9 => BK wC [(M5, 45, [.int .i64 y0, .int .i64 y1, .int .i64 y2, .int .i64 y3, .int .i64 y4, .int .i64 y5, .int .i64 iy, .int .i64 ny, .string sy, .slice oy yn cy]), (M4, 45, L4)] W9) ?_ ?_
          · have := HKr.out.add 45 [.int .i64 y0, .int .i64 y1, .int .i64 y2, .int .i64 y3, .int .i64 y4, .int .i64 y5, .int .i64 iy, .int .i64 ny, .string sy, .slice oy yn cy]
            rw [HM5.out] at this
            exact this
          rintro w5 hk5
          have HK5 := Lib.hid hk5
          have HNX : Hid (∀ W, BK wC [(M5, 45, [.int .i64 y0, .int .i64 y1, .int .i64 y2, .int .i64 y3, .int .i64 y4, .int .i64 y5, .int .i64 iy, .int .i64 ny, .string sy, .slice oy yn cy]), (M4, 45, L4)] W → BK wC [(M4, 45, L4)] W) := fun W h => ⟨h.bel, fun p hp => h.blk p (List.mem_cons_of_mem _ hp)⟩
          have hs0 := s24 (oA := none) (A1 := []) HUB hk5 (.inl rfl)
          clear hk5 HKr HM5 d0 d1 d2 d3 d4 d5 d6 d7 d8 d9
          obtain ⟨e0, e1, e2, e3, e4, e5, e6, e7, e8, e9, p0, p1, p2, p3, p4, p5, p6, p7, p8, p9, _, _⟩ := hs0
          have hs0 := s24 (oA := none) (A1 := []) HUB HK5.out (.inl rfl)
          by_cases hiy : iy = (I : Int)
          · by_cases hny : ny = (al : Int)
            · subst hiy hny
              have b1 : ((I : Int) != (I : Int)) = false := by simp
              have b2 : ((al : Int) != (al : Int)) = false := by simp
              clear e0 p0 e1 p1 e2 p2 e3 p3 e4 p4 e5 p5 e6 p6 e7 p7 e8 p8 e9 p9
              have HRT : Hid (∀ W, Below wC.heap.size wC W → Calls Tryd.prog 22 #[.pointer (some ⟨bl, 0, none⟩)] W fun e w' => e = .returned (.string RR) ∧ Below W.heap.size W w') := fun W hW => by
                have := root_x W N1 b bl F G ⟨D, all, false⟩ (by show all.length ≤ _; rw [HAL.out]; omega) (HTB.out W (HBN.out W (HBC.out W hW))) (HLX.out W (HBC.out W hW))
                dsimp only at this
                rw [HRR.out] at this
                exact this
              have HVY : Hid (∀ W, Below wC.heap.size wC W → Calls Tryd.prog 21 #[.string RR, .agg (proA ⟨y0, y1, y2, y3, y4, y5⟩ I al sy (.slice oy yn cy))] W fun e w' => e = .returned (.bool (verA RR ⟨y0, y1, y2, y3, y4, y5⟩ I al sy ly)) ∧ Below W.heap.size W w') := fun W hW => by
                have := asVerify_any RR ⟨y0, y1, y2, y3, y4, y5⟩ I al sy oy ly cy W HRY.out (by omega) (by rw [HYN.out]; omega) (by rw [HYN.out]; omega) hycm (HRDY.out W hW) (HTB.out W (HBN.out W (HBC.out W hW))) hsy
                rw [HYN.out] at this
                exact this
              obtain ⟨vv, hvv⟩ : ∃ vv, verA RR ⟨y0, y1, y2, y3, y4, y5⟩ I al sy ly = vv := ⟨_, rfl⟩
              rw [hvv] at HVY
              dsimp only [proA] at HVY
              have HVV := Lib.hid hvv
              clear hvv
              go_region_held3 (fun W => W.cell? ⟨M5, 0, none⟩ = some (.int .i64 y0) ∧ W.cell? ⟨M5, 1, none⟩ = some (.int .i64 y1) ∧ W.cell? ⟨M5, 2, none⟩ = some (.int .i64 y2) ∧ W.cell? ⟨M5, 3, none⟩ = some (.int .i64 y3) ∧ W.cell? ⟨M5, 4, none⟩ = some (.int .i64 y4) ∧ W.cell? ⟨M5, 5, none⟩ = some (.int .i64 y5) ∧ W.cell? ⟨M5, 6, none⟩ = some (.int .i64 (I : Int)) ∧ W.cell? ⟨M5, 7, none⟩ = some (.int .i64 (al : Int)) ∧ W.cell? ⟨M5, 8, none⟩ = some (.string sy) ∧ W.cell? ⟨M5, 9, none⟩ = some (.slice oy yn cy) ∧ W.cell? ⟨U, 0, none⟩ = some (.int .i64 r0) ∧ W.cell? ⟨U, 1, none⟩ = some (.int .i64 r1) ∧ W.cell? ⟨U, 2, none⟩ = some (.int .i64 r2) ∧ W.cell? ⟨U, 3, none⟩ = some (.int .i64 r3) ∧ W.cell? ⟨U, 4, none⟩ = some (.int .i64 r4) ∧ W.cell? ⟨U, 5, none⟩ = some (.int .i64 r5) ∧ W.cell? ⟨U, 6, none⟩ = some (.int .i64 (I : Int)) ∧ W.cell? ⟨U, 7, none⟩ = some (.int .i64 (al : Int)) ∧ W.cell? ⟨U, 8, none⟩ = some (.string sl) ∧ W.cell? ⟨U, 9, none⟩ = some (.slice op pn cp) ∧ Hid (BK wC [(M5, 45, [.int .i64 y0, .int .i64 y1, .int .i64 y2, .int .i64 y3, .int .i64 y4, .int .i64 y5, .int .i64 (I : Int), .int .i64 (al : Int), .string sy, .slice oy yn cy]), (M4, 45, L4)] W) ∧ Hid (RdS W none [])) (first | exact hs0 | exact s24n HUB (drew_bB _) hs0 | exact s24n HUB (by assumption) (by assumption)) (first
                | ((with_reducible refine (HRT.out _ (s24b (by assumption))).mono ?_); rintro e wg ⟨rfl, hbg⟩)
                | ((with_reducible refine (HVY.out _ (s24b (by assumption))).mono ?_); rintro e wh ⟨rfl, hbh⟩))
              have hs1 := (by assumption : wh.cell? ⟨M5, 0, none⟩ = some (.int .i64 y0) ∧ wh.cell? ⟨M5, 1, none⟩ = some (.int .i64 y1) ∧ wh.cell? ⟨M5, 2, none⟩ = some (.int .i64 y2) ∧ wh.cell? ⟨M5, 3, none⟩ = some (.int .i64 y3) ∧ wh.cell? ⟨M5, 4, none⟩ = some (.int .i64 y4) ∧ wh.cell? ⟨M5, 5, none⟩ = some (.int .i64 y5) ∧ wh.cell? ⟨M5, 6, none⟩ = some (.int .i64 (I : Int)) ∧ wh.cell? ⟨M5, 7, none⟩ = some (.int .i64 (al : Int)) ∧ wh.cell? ⟨M5, 8, none⟩ = some (.string sy) ∧ wh.cell? ⟨M5, 9, none⟩ = some (.slice oy yn cy) ∧ wh.cell? ⟨U, 0, none⟩ = some (.int .i64 r0) ∧ wh.cell? ⟨U, 1, none⟩ = some (.int .i64 r1) ∧ wh.cell? ⟨U, 2, none⟩ = some (.int .i64 r2) ∧ wh.cell? ⟨U, 3, none⟩ = some (.int .i64 r3) ∧ wh.cell? ⟨U, 4, none⟩ = some (.int .i64 r4) ∧ wh.cell? ⟨U, 5, none⟩ = some (.int .i64 r5) ∧ wh.cell? ⟨U, 6, none⟩ = some (.int .i64 (I : Int)) ∧ wh.cell? ⟨U, 7, none⟩ = some (.int .i64 (al : Int)) ∧ wh.cell? ⟨U, 8, none⟩ = some (.string sl) ∧ wh.cell? ⟨U, 9, none⟩ = some (.slice op pn cp) ∧ Hid (BK wC [(M5, 45, [.int .i64 y0, .int .i64 y1, .int .i64 y2, .int .i64 y3, .int .i64 y4, .int .i64 y5, .int .i64 (I : Int), .int .i64 (al : Int), .string sy, .slice oy yn cy]), (M4, 45, L4)] wh) ∧ Hid (RdS wh none []))
              clear hs0 HRT HVY
              cases vv with
              | false =>
                go_wp2_with fail
                go_roundw
                case rel => exact ⟨jj + 1, by omega, by go_num, HNX.out _ (s24k hs1)⟩
                case measure => simp [intOf]; omega
              | true =>
                have hvy := HVV.out
                obtain ⟨_, hsy32, hlysz, hoky⟩ := verA_path hvy
                obtain ⟨_, hsl32, hplsz, hokp⟩ := verA_path HVER.out
                have hz1 := preL_sz HVER.out
                have hz2 := preL_sz hvy
                have hl1 := preL_len (sl ++ encB ⟨r0, r1, r2, r3, r4, r5⟩) al I PL
                have hl2 := preL_len (sy ++ encB ⟨y0, y1, y2, y3, y4, y5⟩) al I ly
                rw [HPN.out] at hl1
                rw [HYN.out] at hl2
                have hcoll : ¬ (sl = sy ∧ (⟨r0, r1, r2, r3, r4, r5⟩ : Rec) = ⟨y0, y1, y2, y3, y4, y5⟩) → collB (preL (sl ++ encB ⟨r0, r1, r2, r3, r4, r5⟩) al I PL) (preL (sy ++ encB ⟨y0, y1, y2, y3, y4, y5⟩) al I ly) = true := fun hne => by
                  have := binding HVER.out hvy hne
                  rw [Int.toNat_natCast, Int.toNat_natCast] at this
                  exact this
                have he1 := encB_size ⟨r0, r1, r2, r3, r4, r5⟩
                have he2 := encB_size ⟨y0, y1, y2, y3, y4, y5⟩
                have HE1 : Hid (∀ W, Calls Tryd.prog 25 #[.agg (recA ⟨r0, r1, r2, r3, r4, r5⟩)] W fun e w' => e = .returned (.string (encB ⟨r0, r1, r2, r3, r4, r5⟩)) ∧ Below W.heap.size W w') := fun W => refEncoded_any _ W
                have HE2 : Hid (∀ W, Calls Tryd.prog 25 #[.agg (recA ⟨y0, y1, y2, y3, y4, y5⟩)] W fun e w' => e = .returned (.string (encB ⟨y0, y1, y2, y3, y4, y5⟩)) ∧ Below W.heap.size W w') := fun W => refEncoded_any _ W
                dsimp only [recA] at HE1 HE2
                have HP1 : Hid (∀ W, Below wC.heap.size wC W → Calls Tryd.prog 24 #[.string (sl ++ encB ⟨r0, r1, r2, r3, r4, r5⟩), .int .i64 (al : Int), .int .i64 (I : Int), .slice op pn cp] W (PreP W (preL (sl ++ encB ⟨r0, r1, r2, r3, r4, r5⟩) al I PL))) := fun W hW =>
                  refPre_any pn PL op pn al I cp _ W HPN.out HPN.out hpc (by omega) hpm (by omega) hIal (by rw [ByteArray.size_append]; omega) hplsz hokp (HRDP.out W (HBC.out W hW))
                have HP2 : Hid (∀ W, Below wC.heap.size wC W → Calls Tryd.prog 24 #[.string (sy ++ encB ⟨y0, y1, y2, y3, y4, y5⟩), .int .i64 (al : Int), .int .i64 (I : Int), .slice oy yn cy] W (PreP W (preL (sy ++ encB ⟨y0, y1, y2, y3, y4, y5⟩) al I ly))) := fun W hW => by
                  have hb := hoky
                  have hyl : ly.length = yn := HYN.out
                  have hyn2 : yn ≤ 10000 := by
                    have h1 := valR_len _ _ _ _ _ _ hokp hoky
                    rw [List.length_reverse, List.length_reverse, HPN.out, hyl] at h1
                    omega
                  exact refPre_any yn ly oy yn al I cy _ W hyl hyl hyc hyn2 hycm (by omega) hIal (by rw [ByteArray.size_append]; omega) hlysz hoky (HRDY.out W hW)
                have hyn2 : yn ≤ 14 := by
                  have h1 := valR_len _ _ _ _ _ _ hokp hoky
                  rw [List.length_reverse, List.length_reverse, HPN.out, HYN.out] at h1
                  omega
                obtain ⟨Z1, hZ1⟩ : ∃ Z, encB ⟨r0, r1, r2, r3, r4, r5⟩ = Z := ⟨_, rfl⟩
                obtain ⟨Z2, hZ2⟩ : ∃ Z, encB ⟨y0, y1, y2, y3, y4, y5⟩ = Z := ⟨_, rfl⟩
                rw [hZ1] at hz1 hl1 hcoll he1 HE1 HP1
                rw [hZ2] at hz2 hl2 hcoll he2 HE2 HP2
                have hm1 : ¬ (sl.size + Z1.size > 9223372036854775807) := by omega
                have hm2 : ¬ (9223372036854775807 < sl.size + Z1.size) := by omega
                have hm3 : ¬ (sy.size + Z2.size > 9223372036854775807) := by omega
                have hm4 : ¬ (9223372036854775807 < sy.size + Z2.size) := by omega
                obtain ⟨S1, hS1⟩ : ∃ S, sl ++ Z1 = S := ⟨_, rfl⟩
                obtain ⟨S2, hS2⟩ : ∃ S, sy ++ Z2 = S := ⟨_, rfl⟩
                rw [hS1] at hz1 hl1 hcoll HP1
                rw [hS2] at hz2 hl2 hcoll HP2
                obtain ⟨A1, hA1⟩ : ∃ A, preL S1 al I PL = A := ⟨_, rfl⟩
                obtain ⟨A2, hA2⟩ : ∃ A, preL S2 al I ly = A := ⟨_, rfl⟩
                rw [hA1] at hz1 hl1 hcoll HP1
                rw [hA2] at hz2 hl2 hcoll HP2
                obtain ⟨n1, hn1⟩ : ∃ n, A1.length = n := ⟨_, rfl⟩
                obtain ⟨n2, hn2⟩ : ∃ n, A2.length = n := ⟨_, rfl⟩
                have hn1b : n1 ≤ 9000 := by omega
                have hn2b : n2 ≤ 9000 := by omega
                have HN1 := Lib.hid hn1
                have HN2 := Lib.hid hn2
                have HZ1 := Lib.hid hz1
                have HZ2 := Lib.hid hz2
                have HCO := Lib.hid hcoll
                clear hvy hplsz hokp hlysz hoky hz1 hz2 hl1 hl2 hcoll hZ1 hZ2 hA1 hA2 hn1 hn2 HRY HRDY HVV hsl32 hsy32
                go_wp2_with fail
                go_region_held3 (fun W => W.cell? ⟨M5, 0, none⟩ = some (.int .i64 y0) ∧ W.cell? ⟨M5, 1, none⟩ = some (.int .i64 y1) ∧ W.cell? ⟨M5, 2, none⟩ = some (.int .i64 y2) ∧ W.cell? ⟨M5, 3, none⟩ = some (.int .i64 y3) ∧ W.cell? ⟨M5, 4, none⟩ = some (.int .i64 y4) ∧ W.cell? ⟨M5, 5, none⟩ = some (.int .i64 y5) ∧ W.cell? ⟨M5, 6, none⟩ = some (.int .i64 (I : Int)) ∧ W.cell? ⟨M5, 7, none⟩ = some (.int .i64 (al : Int)) ∧ W.cell? ⟨M5, 8, none⟩ = some (.string sy) ∧ W.cell? ⟨M5, 9, none⟩ = some (.slice oy yn cy) ∧ W.cell? ⟨U, 0, none⟩ = some (.int .i64 r0) ∧ W.cell? ⟨U, 1, none⟩ = some (.int .i64 r1) ∧ W.cell? ⟨U, 2, none⟩ = some (.int .i64 r2) ∧ W.cell? ⟨U, 3, none⟩ = some (.int .i64 r3) ∧ W.cell? ⟨U, 4, none⟩ = some (.int .i64 r4) ∧ W.cell? ⟨U, 5, none⟩ = some (.int .i64 r5) ∧ W.cell? ⟨U, 6, none⟩ = some (.int .i64 (I : Int)) ∧ W.cell? ⟨U, 7, none⟩ = some (.int .i64 (al : Int)) ∧ W.cell? ⟨U, 8, none⟩ = some (.string sl) ∧ W.cell? ⟨U, 9, none⟩ = some (.slice op pn cp) ∧ Hid (BK wC [(M5, 45, [.int .i64 y0, .int .i64 y1, .int .i64 y2, .int .i64 y3, .int .i64 y4, .int .i64 y5, .int .i64 (I : Int), .int .i64 (al : Int), .string sy, .slice oy yn cy]), (M4, 45, L4)] W) ∧ Hid (RdS W none [])) (first | exact hs1 | exact s24n HUB (drew_bB _) hs1 | exact s24n HUB (by assumption) (by assumption)) (first
                  | ((with_reducible refine (HE1.out _).mono ?_); rintro e wi ⟨rfl, hbi⟩)
                  | ((with_reducible refine (HP1.out _ (s24b (by assumption))).mono ?_); rintro e wj ⟨oA, cA, rfl, hoA, hbj⟩))
                rw [HN1.out]
                have hs2 := s24 HUB (s24k (by assumption : wj.cell? ⟨M5, 0, none⟩ = some (.int .i64 y0) ∧ wj.cell? ⟨M5, 1, none⟩ = some (.int .i64 y1) ∧ wj.cell? ⟨M5, 2, none⟩ = some (.int .i64 y2) ∧ wj.cell? ⟨M5, 3, none⟩ = some (.int .i64 y3) ∧ wj.cell? ⟨M5, 4, none⟩ = some (.int .i64 y4) ∧ wj.cell? ⟨M5, 5, none⟩ = some (.int .i64 y5) ∧ wj.cell? ⟨M5, 6, none⟩ = some (.int .i64 (I : Int)) ∧ wj.cell? ⟨M5, 7, none⟩ = some (.int .i64 (al : Int)) ∧ wj.cell? ⟨M5, 8, none⟩ = some (.string sy) ∧ wj.cell? ⟨M5, 9, none⟩ = some (.slice oy yn cy) ∧ wj.cell? ⟨U, 0, none⟩ = some (.int .i64 r0) ∧ wj.cell? ⟨U, 1, none⟩ = some (.int .i64 r1) ∧ wj.cell? ⟨U, 2, none⟩ = some (.int .i64 r2) ∧ wj.cell? ⟨U, 3, none⟩ = some (.int .i64 r3) ∧ wj.cell? ⟨U, 4, none⟩ = some (.int .i64 r4) ∧ wj.cell? ⟨U, 5, none⟩ = some (.int .i64 r5) ∧ wj.cell? ⟨U, 6, none⟩ = some (.int .i64 (I : Int)) ∧ wj.cell? ⟨U, 7, none⟩ = some (.int .i64 (al : Int)) ∧ wj.cell? ⟨U, 8, none⟩ = some (.string sl) ∧ wj.cell? ⟨U, 9, none⟩ = some (.slice op pn cp) ∧ Hid (BK wC [(M5, 45, [.int .i64 y0, .int .i64 y1, .int .i64 y2, .int .i64 y3, .int .i64 y4, .int .i64 y5, .int .i64 (I : Int), .int .i64 (al : Int), .string sy, .slice oy yn cy]), (M4, 45, L4)] wj) ∧ Hid (RdS wj none []))) (ownV_rds hoA)
                clear hs1 hoA HE1 HP1
                go_wp2_with fail
                go_region_held3 (fun W => W.cell? ⟨M5, 0, none⟩ = some (.int .i64 y0) ∧ W.cell? ⟨M5, 1, none⟩ = some (.int .i64 y1) ∧ W.cell? ⟨M5, 2, none⟩ = some (.int .i64 y2) ∧ W.cell? ⟨M5, 3, none⟩ = some (.int .i64 y3) ∧ W.cell? ⟨M5, 4, none⟩ = some (.int .i64 y4) ∧ W.cell? ⟨M5, 5, none⟩ = some (.int .i64 y5) ∧ W.cell? ⟨M5, 6, none⟩ = some (.int .i64 (I : Int)) ∧ W.cell? ⟨M5, 7, none⟩ = some (.int .i64 (al : Int)) ∧ W.cell? ⟨M5, 8, none⟩ = some (.string sy) ∧ W.cell? ⟨M5, 9, none⟩ = some (.slice oy yn cy) ∧ W.cell? ⟨U, 0, none⟩ = some (.int .i64 r0) ∧ W.cell? ⟨U, 1, none⟩ = some (.int .i64 r1) ∧ W.cell? ⟨U, 2, none⟩ = some (.int .i64 r2) ∧ W.cell? ⟨U, 3, none⟩ = some (.int .i64 r3) ∧ W.cell? ⟨U, 4, none⟩ = some (.int .i64 r4) ∧ W.cell? ⟨U, 5, none⟩ = some (.int .i64 r5) ∧ W.cell? ⟨U, 6, none⟩ = some (.int .i64 (I : Int)) ∧ W.cell? ⟨U, 7, none⟩ = some (.int .i64 (al : Int)) ∧ W.cell? ⟨U, 8, none⟩ = some (.string sl) ∧ W.cell? ⟨U, 9, none⟩ = some (.slice op pn cp) ∧ Hid (BK wC [(M5, 45, [.int .i64 y0, .int .i64 y1, .int .i64 y2, .int .i64 y3, .int .i64 y4, .int .i64 y5, .int .i64 (I : Int), .int .i64 (al : Int), .string sy, .slice oy yn cy]), (M4, 45, L4)] W) ∧ Hid (RdS W oA A1)) (first | exact hs2 | exact s24n HUB (drew_bB _) hs2 | exact s24n HUB (by assumption) (by assumption)) (first
                  | ((with_reducible refine (HE2.out _).mono ?_); rintro e wk ⟨rfl, hbk⟩)
                  | ((with_reducible refine (HP2.out _ (s24b (by assumption))).mono ?_); rintro e wm ⟨oB, cB, rfl, hoB, hbm⟩))
                rw [HN2.out]
                have hs3 := (by assumption : wm.cell? ⟨M5, 0, none⟩ = some (.int .i64 y0) ∧ wm.cell? ⟨M5, 1, none⟩ = some (.int .i64 y1) ∧ wm.cell? ⟨M5, 2, none⟩ = some (.int .i64 y2) ∧ wm.cell? ⟨M5, 3, none⟩ = some (.int .i64 y3) ∧ wm.cell? ⟨M5, 4, none⟩ = some (.int .i64 y4) ∧ wm.cell? ⟨M5, 5, none⟩ = some (.int .i64 y5) ∧ wm.cell? ⟨M5, 6, none⟩ = some (.int .i64 (I : Int)) ∧ wm.cell? ⟨M5, 7, none⟩ = some (.int .i64 (al : Int)) ∧ wm.cell? ⟨M5, 8, none⟩ = some (.string sy) ∧ wm.cell? ⟨M5, 9, none⟩ = some (.slice oy yn cy) ∧ wm.cell? ⟨U, 0, none⟩ = some (.int .i64 r0) ∧ wm.cell? ⟨U, 1, none⟩ = some (.int .i64 r1) ∧ wm.cell? ⟨U, 2, none⟩ = some (.int .i64 r2) ∧ wm.cell? ⟨U, 3, none⟩ = some (.int .i64 r3) ∧ wm.cell? ⟨U, 4, none⟩ = some (.int .i64 r4) ∧ wm.cell? ⟨U, 5, none⟩ = some (.int .i64 r5) ∧ wm.cell? ⟨U, 6, none⟩ = some (.int .i64 (I : Int)) ∧ wm.cell? ⟨U, 7, none⟩ = some (.int .i64 (al : Int)) ∧ wm.cell? ⟨U, 8, none⟩ = some (.string sl) ∧ wm.cell? ⟨U, 9, none⟩ = some (.slice op pn cp) ∧ Hid (BK wC [(M5, 45, [.int .i64 y0, .int .i64 y1, .int .i64 y2, .int .i64 y3, .int .i64 y4, .int .i64 y5, .int .i64 (I : Int), .int .i64 (al : Int), .string sy, .slice oy yn cy]), (M4, 45, L4)] wm) ∧ Hid (RdS wm oA A1))
                have HRB := Lib.hid (ownV_rds hoB)
                clear hs2 hoB HE2 HP2
                obtain ⟨e0, e1, e2, e3, e4, e5, e6, e7, e8, e9, p0, p1, p2, p3, p4, p5, p6, p7, p8, p9, HKM, HRA⟩ := hs3
                clear e6 e7 e9 p6 p7 p9
                have HKN := Lib.hid (HNX.out _ HKM.out)
                have HCL : Hid (collB A1 A2 = true → Calls Tryd.prog 26 #[.slice oA n1 cA, .slice oB n2 cB] wm fun e w' => e = .returned (.bool true) ∧ Below wm.heap.size wm w') := fun hc => by
                  have h := refColl_any wm oA oB cA cB A1 A2 (by rw [HN1.out]; omega) (by rw [HN2.out]; omega) HZ1.out HZ2.out HRA.out HRB.out (HTB.out wm (HBN.out wm (HBC.out wm HKM.out.bel)))
                  rw [hc, HN1.out, HN2.out] at h
                  exact h
                clear HRA HRB HKM HZ1 HZ2
                by_cases hyr : (sl = sy ∧ (⟨r0, r1, r2, r3, r4, r5⟩ : Rec) = ⟨y0, y1, y2, y3, y4, y5⟩)
                · obtain ⟨hse, hye⟩ := hyr
                  injection hye with g0 g1 g2 g3 g4 g5
                  subst hse g0 g1 g2 g3 g4 g5
                  clear HCL HCO
                  go_wp2_with fail
                  go_roundw
                  case rel => exact ⟨jj + 1, by omega, by go_num, HKN⟩
                  case measure => simp [intOf]; omega
                · have HCL2 := Lib.hid (HCL.out (HCO.out hyr))
                  have hways : (y0 ≠ r0) ∨ (y0 = r0 ∧ y1 ≠ r1) ∨ (y0 = r0 ∧ y1 = r1 ∧ y2 ≠ r2) ∨ (y0 = r0 ∧ y1 = r1 ∧ y2 = r2 ∧ y3 ≠ r3) ∨ (y0 = r0 ∧ y1 = r1 ∧ y2 = r2 ∧ y3 = r3 ∧ y4 ≠ r4) ∨ (y0 = r0 ∧ y1 = r1 ∧ y2 = r2 ∧ y3 = r3 ∧ y4 = r4 ∧ y5 ≠ r5) ∨ (y0 = r0 ∧ y1 = r1 ∧ y2 = r2 ∧ y3 = r3 ∧ y4 = r4 ∧ y5 = r5) := by omega
                  rcases hways with d | ⟨rfl, d⟩ | ⟨rfl, rfl, d⟩ | ⟨rfl, rfl, rfl, d⟩ | ⟨rfl, rfl, rfl, rfl, d⟩ | ⟨rfl, rfl, rfl, rfl, rfl, d⟩ | ⟨rfl, rfl, rfl, rfl, rfl, rfl⟩
                  rotate_right
                  · have d2 : (sy.toList != sl.toList) = true := by
                      rw [neq_dec]
                      exact decide_eq_true (fun e => hyr ⟨e.symm, rfl⟩)
                    have d3 : (sy.toList == sl.toList) = false := by
                      rw [beq_dec]
                      exact decide_eq_false (fun e => hyr ⟨e.symm, rfl⟩)
                    clear hyr HCL HCO d2
                    go_wp2_with fail
                    refine HCL2.out.mono ?_
                    rintro e wz ⟨rfl, hbz⟩
                    have HKZ := Lib.hid (HKN.out.next hbz)
                    clear hbz HKN
                    go_wp2_with fail
                    go_roundw
                    case rel => exact ⟨jj + 1, by omega, by go_num, HKZ⟩
                    case measure => simp [intOf]; omega
                  all_goals
                    have d2 := beq_eq_false_iff_ne.2 d
                    clear hyr HCL HCO d
                    go_wp2_with fail
                    refine HCL2.out.mono ?_
                    rintro e wz ⟨rfl, hbz⟩
                    have HKZ := Lib.hid (HKN.out.next hbz)
                    clear hbz HKN
                    go_wp2_with fail
                    go_roundw
                    case rel => exact ⟨jj + 1, by omega, by go_num, HKZ⟩
                    case measure => simp [intOf]; omega
            · have b1 : (iy != (I : Int)) = false := by simp [hiy]
              have b2 : (ny != (al : Int)) = true := by simp [hny]
              clear hiy hny hs0
              go_quiet (fail)
              have HKN := Lib.hid (HNX.out _ (HK5.out.next (drewN_below (Below.refl _ _) nq)))
              clear e0 p0 e1 p1 e2 p2 e3 p3 e4 p4 e5 p5 e6 p6 e7 p7 e8 p8 e9 p9
              go_wp2_with fail
              go_roundw
              case rel => exact ⟨jj + 1, by omega, by go_num, HKN⟩
              case measure => simp [intOf]; omega
          · have b1 : (iy != (I : Int)) = true := by simp [hiy]
            clear hiy hs0
            go_quiet (fail)
            have HKN := Lib.hid (HNX.out _ (HK5.out.next (drewN_below (Below.refl _ _) nq)))
            clear e0 p0 e1 p1 e2 p2 e3 p3 e4 p4 e5 p5 e6 p6 e7 p7 e8 p8 e9 p9
            go_wp2_with fail
            go_roundw
            case rel => exact ⟨jj + 1, by omega, by go_num, HKN⟩
            case measure => simp [intOf]; omega
        · have hjI : ¬ (jj : Int) < 2 := by omega
          go_wp2_with fail
          go_ret
          exact ⟨rfl, by rw [HNN.out]; exact HBN.out _ (HBC.out _ HKr.out.bel)⟩
end Go.Proofs.YtfpcdlpfmlaakaaDoor
