/-
  A list of arrays of four integers, as a law's argument.
  The walk of the law AsrunOpensAnything.
-/
import Derived.Lib.SmallJoins
import Derived.Deep.Slices
import Derived.Deep.Fields
import Derived.ChangeSame
import Derived.OpenShut
import Derived.Deep.CutBlock
import Derived.Test.YtfpcdlpfmlaakaaGreatDoorAsRa
import Derived.Test.YtfpcdlpfmlaakaaGreatDoorWW
set_option linter.unusedVariables false
set_option linter.unusedSimpArgs false
namespace Go.Proofs.YtfpcdlpfmlaakaaGreatDoor
open Go.RowKit Go.ChangeShapes Go.WideShapes Go.Deep Go.Joins Onair
section
variable {H : Type} {enc : TypeId × Value → H} {P : Program} {w : World} {base : Nat} {spare : Nat → Bool} {held : Bool}
theorem open_slice_arr {t e ei : TypeId} {n : Nat} {fuel : Nat} {cs : List Value} {x : DataW H × List MemPlace} (ht : P.underlying t = some (.slice e)) (he : P.underlying e = some (.array n ei)) (hi : P.underlying ei = some (.int .i64))
    (hc : P.cellsOf ei = 1) (hC : P.cellsOf e = n) (h : DataW.trod enc P w base spare held fuel t cs = some x) :
    cs = [.slice none 0 0] ∨
    ∃ (a : Addr) (len cap : Nat), cs = [.slice (some a) len cap] ∧ len ≤ cap ∧ cap ≤ maxLen ∧
      ∀ i, i < len → ∀ j, j < n → ∃ z : Int, w.cell? (a.add (i * n + j)) = some (.int .i64 z) ∧ -9223372036854775808 ≤ z ∧ z ≤ 9223372036854775807 := by
  rcases open_slice ht h with h0 | ⟨a, len, cap, m, k, D, Pl, hcs, hb, hl, hm, hmm, hx, hi'⟩
  · exact .inl h0.1
  · refine .inr ⟨a, len, cap, hcs, hl, hm, fun i him j hj => ?_⟩
    obtain ⟨cs', hc', ht'⟩ := hi' i (by rw [hmm]; split <;> omega)
    obtain ⟨xs, q, _, _, hcl, hxl, hel⟩ := DataW.trod_array he ht'
    have h1 := hel j hj
    rw [hc, Nat.mul_one] at h1
    rw [hC] at hc' hcl
    obtain ⟨_, _, hat⟩ := World.cells?_some hc'
    have hjl : j < cs'.length := by omega
    have hone' : (cs'.drop j).take 1 = [cs'[j]] := by
      rw [List.drop_eq_getElem_cons hjl]
      rfl
    rw [hone'] at h1
    have hxj : xs[j]? = some (xs[j]'(by omega)) := List.getElem?_eq_getElem (by omega)
    obtain ⟨z, ez, _, wz⟩ := DataW.trod_int hi (h1.trans hxj)
    simp only [List.cons.injEq, and_true] at ez
    refine ⟨z, ?_, (bounds_i64 wz).1, (bounds_i64 wz).2⟩
    rw [← Go.Deep.add_add, hat j hj, List.getElem?_eq_getElem hjl, ez]
end
theorem quads_of {W : World} {a : Addr} {len : Nat} (h : ∀ i, i < len → ∀ j, j < 4 → ∃ z : Int, W.cell? (a.add (i * 4 + j)) = some (.int .i64 z) ∧ -9223372036854775808 ≤ z ∧ z ≤ 9223372036854775807) :
    ∃ l : List Qd, l.length = len ∧ (∀ q ∈ l, QdI q) ∧ RdQ W (some a) l := by
  have key : ∀ i j : Nat, ∃ z : Int, -9223372036854775808 ≤ z ∧ z ≤ 9223372036854775807 ∧ (i < len → j < 4 → W.cell? (a.add (i * 4 + j)) = some (.int .i64 z)) := by
    intro i j
    by_cases hi : i < len ∧ j < 4
    · obtain ⟨z, h1, h2, h3⟩ := h i hi.1 j hi.2
      exact ⟨z, h2, h3, fun _ _ => h1⟩
    · exact ⟨0, by decide, by decide, fun h1 h2 => absurd ⟨h1, h2⟩ hi⟩
  have key2 : ∀ i : Nat, ∃ f : Nat → Int, ∀ j, -9223372036854775808 ≤ f j ∧ f j ≤ 9223372036854775807 ∧ (i < len → j < 4 → W.cell? (a.add (i * 4 + j)) = some (.int .i64 (f j))) := fun i => by
    obtain ⟨f, hf⟩ := Classical.axiomOfChoice (key i)
    exact ⟨f, hf⟩
  obtain ⟨F, hF⟩ := Classical.axiomOfChoice key2
  refine ⟨(List.range len).map fun i => ⟨F i 0, F i 1, F i 2, F i 3⟩, by simp, ?_, ?_⟩
  · intro q hq
    obtain ⟨i, _, rfl⟩ := List.mem_map.1 hq
    exact ⟨(hF i 0).1, (hF i 0).2.1, (hF i 1).1, (hF i 1).2.1, (hF i 2).1, (hF i 2).2.1, (hF i 3).1, (hF i 3).2.1⟩
  · by_cases hp : 0 < len
    · obtain ⟨b, off, spot⟩ := a
      have h0 := (hF 0 0).2.2 hp (by decide)
      have hspot : spot = none := by simpa [Addr.add] using World.cell?_spot h0
      subst hspot
      refine .inr ⟨b, off, rfl, block_lt (p := ⟨b, off + (0 * 4 + 0), none⟩) (by rw [Go.WideShapes.add_plain] at h0; exact h0), fun i q hi => ?_⟩
      have hil : i < len := by
        have := (List.getElem?_eq_some_iff.1 hi).1
        simpa using this
      rw [List.getElem?_map, List.getElem?_range hil] at hi
      simp only [Option.map_some, Option.some.injEq] at hi
      subst hi
      have c0 := (hF i 0).2.2 hil (by decide)
      have c1 := (hF i 1).2.2 hil (by decide)
      have c2 := (hF i 2).2.2 hil (by decide)
      have c3 := (hF i 3).2.2 hil (by decide)
      rw [Go.WideShapes.add_plain] at c0 c1 c2 c3
      exact ⟨c0, c1, c2, c3⟩
    · exact .inl (by rw [show len = 0 by omega]; rfl)
set_option maxRecDepth 100000 in
theorem open_quads {H : Type} {enc : TypeId × Value → H} {W : World} {base : Nat} {v : Value} {d : DataW H} {ps : List MemPlace}
    (hv : Value.okWide Tryz.prog W .any base 22 v) (h : DataW.Trod enc Tryz.prog W 0 (fun _ => true) true 22 v d ps) :
    ∃ (oa : Option Addr) (cap : Nat) (l : List Qd), v = .slice oa l.length cap ∧ l.length ≤ cap ∧ cap ≤ maxLen ∧ (∀ q ∈ l, QdI q) ∧ RdQ W oa l := by
  obtain ⟨a0, len, cap, rfl⟩ := okWide_slice Tryz.underlying22 hv
  obtain ⟨fuel, hf⟩ := h
  rcases open_slice_arr Tryz.underlying22 Tryz.underlying108 Tryz.underlying3 (by kernel_rfl) (by kernel_rfl) hf with hcs | ⟨a, len', cap', hcs, hl, hm, hi⟩
  · simp [Value.cells] at hcs
    obtain ⟨rfl, rfl, rfl⟩ := hcs
    exact ⟨none, 0, [], rfl, Nat.zero_le _, Nat.zero_le _, fun q hq => absurd hq (by simp), .inl rfl⟩
  · simp [Value.cells] at hcs
    obtain ⟨rfl, rfl, rfl⟩ := hcs
    obtain ⟨l, h1, h2, h3⟩ := quads_of hi
    exact ⟨some a, cap, l, by rw [h1], by rw [h1]; exact hl, hm, h2, h3⟩
end Go.Proofs.YtfpcdlpfmlaakaaGreatDoor
namespace Go.Proofs.YtfpcdlpfmlaakaaGreatDoor
open Go.RowKit Onair
attribute [local go_sem ↓] Go.wp_at_zero Go.wp_at_succ
attribute [local go_sem] Oper.semAt_some
theorem wpAnyH_weak {P : Program} {md : Region.Mode} {ops : Array Oper} {Q : Exit → Act → World → Prop} {S1 S2 : World → Prop} (h12 : ∀ w, S2 w → S1 w) : ∀ (fuel : Nat) (listed : Array Bool) (a : Act) (w : World), wpAnyH P md ops Q S2 fuel listed a w → wpAnyH P md ops Q S1 fuel listed a w
  | 0, _, _, _, h => h
  | fuel + 1, _, _, _, h => ⟨h.1, fun i hi => wpOp_mono (fun a' w' h' => ⟨h12 _ h'.1, wpAnyH_weak h12 fuel _ a' w' h'.2⟩) (h.2 i hi)⟩
theorem Blk.two {W : World} {q : Nat} {t : TypeId} {a b c d : Value} (h : Blk W q t [a, b, c, d]) : W.cell? ⟨q, 1, none⟩ = some b ∧ W.cell? ⟨q, 3, none⟩ = some d := ⟨h.cell 1, h.cell 3⟩
theorem SideP.after {Z : World → Value → (Nat → Prop) → Prop} {W W2 w' : World} {S : Nat → Prop} {x : Value} (h : SideP Z W2 S x w') (hb : Below W.heap.size W W2) : SideP Z W S x w' := by
  obtain ⟨S', h1, h2, h3⟩ := h
  exact ⟨S', h1, fun k hk => (h2 k hk).imp_right (fun h => Nat.le_trans hb.size h), (Fr.under S hb).trans h3 (fun _ _ h => h)⟩
theorem openO_new (z : Nat) : openO (newD z) = some ([], false) := by
  unfold openO
  rw [(Cln.new z).openE, if_pos rfl, (Cln.new z).openR]
/-- The reference's disk is still to follow ours. -/
def OMid (N q b r : Nat) (D D' : DS) (o : Option (List Rec × Bool)) (x y : Value) (wx : World) : Prop := ∃ H, RDX wx N r H D ∧ ∀ w2, RDStep wx w2 N r H D' → Below N wx w2 ∧ ∃ S' T', WX w2 N q b r D' o x y S' T'
theorem OMid.below {N q b r : Nat} {D D' : DS} {o : Option (List Rec × Bool)} {x y : Value} {W W2 : World} (h : OMid N q b r D D' o x y W) (hN : N ≤ W.heap.size) (hb : Below W.heap.size W W2) : OMid N q b r D D' o x y W2 := by
  obtain ⟨H, h1, h2⟩ := h
  refine ⟨H, h1.below hb, fun w2 ⟨F', q1, q2, q3⟩ => ?_⟩
  obtain ⟨u1, u2⟩ := h2 w2 ⟨F', q1, fun k hk => (q2 k hk).imp_right (fun h => Nat.le_trans hb.size h), (Fr.under H hb).trans q3 (fun _ _ h => h)⟩
  exact ⟨q3.below N (Nat.le_trans hN hb.size) h1.ge, u2⟩
theorem wrA {W : World} {N q b r : Nat} {D : DS} {o : Option (List Rec × Bool)} {x y : Value} {S T : Nat → Prop} {n i : Nat} (h : WX W N q b r D o x y S T) (off : Int) (s : ByteArray) (ho : -9223372036854775808 ≤ off) (ho1 : off ≤ 9223372036854775807) (hs : s.size ≤ maxLen) (hi : Inv D n i) (hib : i ≤ 1000000) :
    Calls Tryz.prog 13 #[.pointer (some ⟨b, 0, none⟩), .int .i64 off, .string s] W fun e w' => (∃ ew, e = .returned (.int .i64 ew)) ∧ Below N W w' ∧ OMid N q b r D (writeD D off s) o x y w' := by
  obtain ⟨F, d1, d2⟩ := h.disk (D' := writeD D off s)
  refine (write_d W N b F D n i off s ho ho1 hs hi hib d1).mono ?_
  rintro e w' ⟨he, hst⟩
  obtain ⟨u1, u2⟩ := d2 w' hst
  exact ⟨⟨_, he⟩, u1, u2⟩
theorem wrC {W : World} {N q b r : Nat} {D : DS} {o : Option (List Rec × Bool)} {x y : Value} {n i : Nat} (off : Int) (s : ByteArray) (h : OMid N q b r D (writeD D off s) o x y W) (ho : -9223372036854775808 ≤ off) (ho1 : off ≤ 9223372036854775807) (hs : s.size ≤ maxLen) (hi : Inv D n i) (hib : i ≤ 1000000) :
    Calls Tryz.prog 15 #[.pointer (some ⟨r, 0, none⟩), .int .i64 off, .string s] W fun e w' => (∃ ew, e = .returned (.int .i64 ew)) ∧ Below N W w' ∧ ∃ S' T', WX w' N q b r (writeD D off s) o x y S' T' := by
  obtain ⟨H, d1, d2⟩ := h
  refine (refWrite_x W N r H D n i off s ho ho1 hs hi hib d1).mono ?_
  rintro e w' ⟨he, hst⟩
  obtain ⟨u1, u2⟩ := d2 w' hst
  exact ⟨⟨_, he⟩, u1, u2⟩
theorem oneC (cc : Int) (u0 : 0 ≤ cc) (u1 : cc ≤ 255) : ∃ Q : ByteArray, Q.size = 1 ∧ ∀ W : World, (convert 42 9 (.slice (some ⟨W.heap.size, 0, none⟩) 1 1)).run Tryz.prog (W.alloc (.cells #[.int .u8 cc] 5)) = .ok (.string Q) (W.alloc (.cells #[.int .u8 cc] 5)) := by
  refine ⟨⟨#[UInt8.ofNat cc.toNat]⟩, rfl, fun W => ?_⟩
  refine run_convert_bytes_back (P := Tryz.prog) (W.alloc (.cells #[.int .u8 cc] 5)) 42 9 5 ⟨W.heap.size, 0, none⟩ 1 [UInt8.ofNat cc.toNat] Tryz.underlying42 Tryz.underlying5 Tryz.underlying9 (fun j hj => ?_)
  have : j = 0 := by simpa using hj
  subst this
  rw [show ((⟨W.heap.size, 0, none⟩ : Addr).add 0) = ⟨W.heap.size, 0, none⟩ from by simp [Addr.add], (Blk.new W 5 [.int .u8 cc]).cell 0]
  simp
  omega
theorem min_cutO (s : ByteArray) (b : Nat) : ∃ (m : Nat) (T : ByteArray), m ≤ s.size ∧ m ≤ b ∧ T.size = m ∧ min (s.size : Int) (b : Int) = (m : Int) ∧ (if (b : Int) < (s.size : Int) then (b : Int) else (s.size : Int)) = (m : Int) ∧ s.extract 0 m = T := by
  refine ⟨min b s.size, s.extract 0 (min b s.size), by omega, by omega, by simp, by omega, by split <;> omega, rfl⟩
/-- The law's state ahead of its second open. -/
def OState (w : World) (N q b r z i : Nat) (wx : World) : Prop := ∃ D o x y S T, Hid (WX wx N q b r D o x y S T) ∧ Hid (Inv D z i) ∧ Hid (Below N w wx)
set_option maxHeartbeats 16000000 in
set_option maxRecDepth 100000 in
theorem walkOpensAnything (w : World) (m : Int) (s : ByteArray) (oa : Option Addr) (c : Nat) (l : List Qd) (at_ cc : Int) (m0 : -9223372036854775808 ≤ m) (m1 : m ≤ 9223372036854775807) (hs : s.size ≤ maxLen) (hlc : l.length ≤ c) (hcm : c ≤ maxLen) (hI : ∀ g ∈ l, QdI g) (hr : RdQ w oa l) (a0 : -9223372036854775808 ≤ at_) (a1 : at_ ≤ 9223372036854775807) (u0 : 0 ≤ cc) (u1 : cc ≤ 255) (ht : TabAt w) :
    Calls Tryz.prog 3 #[.int .i64 m, .string s, .slice oa l.length c, .int .i64 at_, .int .u8 cc] w fun e w' => e = .returned (.bool true) ∧ Below w.heap.size w w' := by
  unfold maxLen at hcm hs
  obtain ⟨N, hN⟩ : ∃ N, w.heap.size = N := ⟨_, rfl⟩
  have hg := ht.lt
  rw [hN] at hg
  have HTB : Hid (∀ W, Below N w W → TabAt W) := fun W hW => ht.below (by rw [hN]; exact hW)
  have HG := Lib.hid hg
  have HSN := Lib.hid (sane_any w ht ht.lt)
  have HNN := Lib.hid hN
  have HFW : Hid (∀ W, Below N w W → _) := fun W hW => few_any oa c l W (by unfold maxLen; omega) hI (hr.below (by rw [hN]; exact hW))
  obtain ⟨n, hn⟩ : ∃ n, l.length = n := ⟨_, rfl⟩
  have HLN := Lib.hid hn
  have HSZ := Lib.hid (fun W => lawSize_any m W m0 m1)
  have hsz := sizeN_eq m
  obtain ⟨z, hz⟩ : ∃ z, sizeN m = z := ⟨_, rfl⟩
  rw [hz] at HSZ hsz
  obtain ⟨hz0, hz1, hz2⟩ := hsz
  have hlen := fewL_len l
  have HLI := Lib.hid (valid_I (fewL_valid l))
  obtain ⟨L, hL⟩ : ∃ L, fewL l = L := ⟨_, rfl⟩
  rw [hL] at HFW hlen HLI
  have HOD := Lib.hid (Cln.new z).openD
  have HOO := Lib.hid (openO_new z)
  rw [hn] at hlc HFW ⊢
  clear hr hI hn ht hg hN hz hz0 hL
  go_enter Tryz.func3, Tryz.ntmps3
  go_wp2_with fail
  refine HSN.out.mono ?_
  rintro e w1 ⟨rfl, hb1⟩
  have HB1 : Hid (Below N w w1) := by rw [← HNN.out]; exact hb1
  clear hb1 HSN
  go_wp2_with fail
  refine (HSZ.out _).mono ?_
  rintro e w' ⟨rfl, rfl⟩
  go_wp2_with fail
  refine (new_x z w1 N (bnl HNN.out HB1.out) hz1 (by omega)).mono ?_
  rintro e w2 ⟨b, F, rfl, hd, hb, hF⟩
  have HD := Lib.hid hd
  have HB2 : Hid (Below N w w2) := HB1.out.trans (hb.mono (bnl HNN.out HB1.out))
  clear hd hb hF HB1
  go_wp2_with fail
  refine (HSZ.out _).mono ?_
  rintro e w' ⟨rfl, rfl⟩
  go_wp2_with fail
  refine (refNew_x z w2 N (bnl HNN.out HB2.out) hz1 (by omega)).mono ?_
  rintro e w3 ⟨r, F2, rfl, hd2, hb, hF2⟩
  have HD2 := Lib.hid hd2
  have HD1 := Lib.hid (HD.out.below hb)
  have HSP : Hid (∀ k, F k → ¬ F2 k) := fun k hk h => by have := HD.out.lt k hk; have := hF2 k h; omega
  have HB3 : Hid (Below N w w3) := HB2.out.trans (hb.mono (bnl HNN.out HB2.out))
  clear hd2 hb hF2 HB2 HD
  obtain ⟨q, hq⟩ : ∃ q, w3.heap.size = q := ⟨_, rfl⟩
  have hx4 : WX (w3.alloc (.cells #[.pointer (some ⟨b, 0, none⟩), .pointer none, .pointer (some ⟨r, 0, none⟩), .pointer none] 36)) N q b r (newD z) none (.pointer none) (.pointer none) F F2 := by
    have hb := (Below.refl w3.heap.size w3).alloc (Nat.le_refl _) (.cells #[.pointer (some ⟨b, 0, none⟩), .pointer none, .pointer (some ⟨r, 0, none⟩), .pointer none] 36)
    refine ⟨?_, .inl ⟨rfl, rfl, HD1.out.below hb⟩, .inl ⟨rfl, rfl, HD2.out.below hb⟩, HSP.out, fun h => ?_, fun h => ?_, ?_⟩
    · have := Blk.new w3 36 [.pointer (some ⟨b, 0, none⟩), .pointer none, .pointer (some ⟨r, 0, none⟩), .pointer none]
      rw [hq] at this
      exact this
    · have := HD1.out.lt q h
      omega
    · have := HD2.out.lt q h
      omega
    · rw [← hq]
      exact bnl HNN.out HB3.out
  have hb4 : Below N w (w3.alloc (.cells #[.pointer (some ⟨b, 0, none⟩), .pointer none, .pointer (some ⟨r, 0, none⟩), .pointer none] 36)) := HB3.out.alloc (bnl HNN.out HB3.out) _
  have HHQ := Lib.hid hq
  have HX4 := Lib.hid hx4
  have HB4 := Lib.hid hb4
  clear hq hx4 hb4 HD1 HD2 HSP HB3
  obtain ⟨t, ht⟩ : ∃ t, decide (0 < n) = t := ⟨_, rfl⟩
  go_upto_if 36 with (fail)
  have HT9 := Lib.hid ht
  clear ht
  rw [HHQ.out]
  generalize w3.alloc (.cells #[.pointer (some ⟨b, 0, none⟩), .pointer none, .pointer (some ⟨r, 0, none⟩), .pointer none] 36) = w4 at HX4 HB4 ⊢
  go_cut [99] from 37 to 100 (fun _ wx => OState w N q b r z 9 wx)
  case first =>
    cases t with
    | false =>
      obtain ⟨k, X, hk1, hk2, hXz, hmin, hif, hex⟩ := min_cutO s z
      have HWA : Hid (∀ W, Hid (WX W N q b r (newD z) none (.pointer none) (.pointer none) F F2) → _) := fun W hW => wrA (s := X) hW.out 0 (by omega) (by omega) (by unfold maxLen; omega) (Inv.new z) (by omega)
      have HWC : Hid (∀ W, OMid N q b r (newD z) (writeD (newD z) 0 X) none (.pointer none) (.pointer none) W → _) := fun W hW => wrC (n := z) (i := 0) 0 X hW (by omega) (by omega) (by unfold maxLen; omega) (Inv.new z) (by omega)
      have HI2 : Hid (Inv (writeD (newD z) 0 X) z 1) := (Inv.new z).write _ _
      have qk0 : (0 : Int) ≤ (k : Int) := by omega
      have qk1 : (k : Int) ≤ (s.size : Int) := by omega
      clear hXz
      go_wp2_with fail
      refine (HSZ.out _).mono ?_
      rintro e w' ⟨rfl, rfl⟩
      go_wp2_with fail
      refine (HWA.out _ HX4).mono ?_
      rintro e wA ⟨⟨ew, rfl⟩, hbA, hmA⟩
      have HMA := Lib.hid hmA
      have HQA : Hid (Below N w wA) := HB4.out.trans hbA
      clear hmA hbA HX4 HB4 HWA
      go_wp2_with fail
      refine (HSZ.out _).mono ?_
      rintro e w' ⟨rfl, rfl⟩
      go_wp2_with fail
      refine (HWC.out _ HMA.out).mono ?_
      rintro e wB ⟨⟨ew2, rfl⟩, hbB, S2, T2, hx2⟩
      have HX2 := Lib.hid hx2
      have HQB : Hid (Below N w wB) := HQA.out.trans hbB
      clear hx2 hbB HMA HQA HWC
      go_wp2_with fail
      go_meet
      exact ⟨_, _, _, _, _, _, HX2, HI2.out.mono (by omega), HQB⟩
    | true =>
      go_upto_region 6 with (fail)
      have HIV1 : Hid (Inv (appC ⟨newD z, [], false⟩ L).2.D z 4) := by
        have ho : OkO (newD z) z (some ([], false)) := by
          have := OkO.opened (Inv.new z)
          rw [HOD.out, HOO.out] at this
          exact this
        exact (OkO.app (Inv.new z) ho L).1
      go_cut [63] from 37 to 64 (fun v wx => v = .bool false ∧ ∃ D o x y S T, Hid (WX wx N q b r D o x y S T) ∧ Hid (Inv D z 4) ∧ Hid (Below N w wx))
      case first =>
        have HX : Hid (WX w4.drew N q b r (newD z) none (.pointer none) (.pointer none) F F2) := HX4.out.below (Below.refl _ _).drew
        have HQ : Hid (Below N w w4.drew) := HB4.out.drew
        clear HX4 HB4
        refine wp_region_held_drew (S := fun _ => True) (by kernel_rfl) ?_ (fun hHeld => ?_)
        · trivial
        refine wpAnyH_take (i := 0) (oi := ⟨some 37, _, _, _, _, _⟩) (v := ?vp1) rfl (by kernel_rfl) (by kernel_rfl) (by kernel_rfl) (fun _ _ _ h => h) (Or.inl ⟨by rfl, ?yp1⟩) (by assumption) ?rp1
        case yp1 => (intro w hSw; (try dsimp only at hSw); go_simp; (try (with_reducible rfl)))
        try simp only [Act.put, List.setIfInBounds_toArray, List.set_cons_zero, List.set_cons_succ]
        refine wpAnyH_ready (rs := [1]) (by kernel_rfl) (by simp) (AllReadyH.cons (o := ⟨some 38, _, _, _, _, _⟩) rfl (fun K hK => ?_) AllReadyH.nil)
        go_simp
        refine (openW _ N q b r (newD z) none _ _ _ _ z 0 HX.out (HTB.out _ HQ.out) (Inv.new z) (by omega) (by omega)).mono ?_
        rintro e wA ⟨rfl, hbA, xA, yA, SA1, TA1, hxA⟩
        rw [HOD.out, HOO.out] at hxA
        obtain ⟨bl, FA, GA, rfl, _, _⟩ := hxA.a.ptr
        obtain ⟨cl, FC, GC, rfl, _, _⟩ := hxA.c.ptr
        have HX1 := Lib.hid hxA
        have HQ1 : Hid (Below N w wA) := HQ.out.trans hbA
        have HKC := Lib.hid (hxA.blk.two)
        clear hxA hbA HX HQ
        go_simp
        refine hK.out _ _ ?_ (fun hHeld2 => ?_)
        · trivial
        clear hK K hHeld
        rename _ => hHeld
        try simp only [Act.put, List.setIfInBounds_toArray, List.set_cons_zero, List.set_cons_succ]
        refine wpAnyH_weak (S2 := fun W => W.cell? ⟨q, 1, none⟩ = some (.pointer (some ⟨bl, 0, none⟩)) ∧ W.cell? ⟨q, 3, none⟩ = some (.pointer (some ⟨cl, 0, none⟩))) (fun _ _ => trivial) _ _ _ _ ?_
        clear hHeld
        have hHeld := HKC.out
        refine wpAnyH_take (i := 2) (oi := ⟨some 39, _, _, _, _, _⟩) (v := ?vp2) rfl (by kernel_rfl) (by kernel_rfl) (by kernel_rfl) (fun _ _ _ h => h) (Or.inl ⟨by rfl, ?yp2⟩) (by assumption) ?rp2
        case yp2 => (intro w hSw; (try dsimp only at hSw); go_simp; (try (with_reducible rfl)))
        try simp only [Act.put, List.setIfInBounds_toArray, List.set_cons_zero, List.set_cons_succ]
        refine wpAnyH_take (i := 3) (oi := ⟨some 40, _, _, _, _, _⟩) (v := ?vp3) rfl (by kernel_rfl) (by kernel_rfl) (by kernel_rfl) (fun _ _ _ h => h) (Or.inl ⟨by rfl, ?yp3⟩) (by assumption) ?rp3
        case yp3 => (intro w hSw; (try dsimp only at hSw); go_simp; (try (with_reducible rfl)))
        try simp only [Act.put, List.setIfInBounds_toArray, List.set_cons_zero, List.set_cons_succ]
        refine wpAnyH_take (i := 4) (oi := ⟨some 41, _, _, _, _, _⟩) (v := ?vp4) rfl (by kernel_rfl) (by kernel_rfl) (by kernel_rfl) (fun _ _ _ h => h) (Or.inl ⟨by rfl, ?yp4⟩) (by assumption) ?rp4
        case yp4 => (intro w hSw; (try dsimp only at hSw); go_simp; (try (with_reducible rfl)))
        try simp only [Act.put, List.setIfInBounds_toArray, List.set_cons_zero, List.set_cons_succ]
        refine wpAnyH_take (i := 5) (oi := ⟨some 42, _, _, _, _, _⟩) (v := ?vp5) rfl (by kernel_rfl) (by kernel_rfl) (by kernel_rfl) (fun _ _ _ h => h) (Or.inl ⟨by rfl, ?yp5⟩) (by assumption) ?rp5
        case yp5 => (intro w hSw; (try dsimp only at hSw); go_simp; (try (with_reducible rfl)))
        try simp only [Act.put, List.setIfInBounds_toArray, List.set_cons_zero, List.set_cons_succ]
        refine wpAnyH_take (i := 6) (oi := ⟨some 43, _, _, _, _, _⟩) (v := ?vp6) rfl (by kernel_rfl) (by kernel_rfl) (by kernel_rfl) (fun _ _ _ h => h) (Or.inl ⟨by rfl, ?yp6⟩) (by assumption) ?rp6
        case yp6 => (intro w hSw; (try dsimp only at hSw); go_simp; (try (with_reducible rfl)))
        try simp only [Act.put, List.setIfInBounds_toArray, List.set_cons_zero, List.set_cons_succ]
        refine wpAnyH_take (i := 7) (oi := ⟨some 44, _, _, _, _, _⟩) (v := ?vp7) rfl (by kernel_rfl) (by kernel_rfl) (by kernel_rfl) (fun _ _ _ h => h) (Or.inl ⟨by rfl, ?yp7⟩) (by assumption) ?rp7
        case yp7 => (intro w hSw; (try dsimp only at hSw); go_simp; (try (with_reducible rfl)))
        try simp only [Act.put, List.setIfInBounds_toArray, List.set_cons_zero, List.set_cons_succ]
        refine wpAnyH_take (i := 8) (oi := ⟨some 45, _, _, _, _, _⟩) (v := ?vp8) rfl (by kernel_rfl) (by kernel_rfl) (by kernel_rfl) (fun _ _ _ h => h) (Or.inl ⟨by rfl, ?yp8⟩) (by assumption) ?rp8
        case yp8 => (intro w hSw; (try dsimp only at hSw); go_simp; (try (with_reducible rfl)))
        try simp only [Act.put, List.setIfInBounds_toArray, List.set_cons_zero, List.set_cons_succ]
        refine wpAnyH_take (i := 9) (oi := ⟨some 46, _, _, _, _, _⟩) (v := ?vp9) rfl (by kernel_rfl) (by kernel_rfl) (by kernel_rfl) (fun _ _ _ h => h) (Or.inl ⟨by rfl, ?yp9⟩) (by assumption) ?rp9
        case yp9 => (intro w hSw; (try dsimp only at hSw); go_simp; (try (with_reducible rfl)))
        try simp only [Act.put, List.setIfInBounds_toArray, List.set_cons_zero, List.set_cons_succ]
        refine wpAnyH_take (i := 10) (oi := ⟨some 47, _, _, _, _, _⟩) (v := ?vp10) rfl (by kernel_rfl) (by kernel_rfl) (by kernel_rfl) (fun _ _ _ h => h) (Or.inl ⟨by rfl, ?yp10⟩) (by assumption) ?rp10
        case yp10 => (intro w hSw; (try dsimp only at hSw); go_simp; (try (with_reducible rfl)))
        try simp only [Act.put, List.setIfInBounds_toArray, List.set_cons_zero, List.set_cons_succ]
        refine wpAnyH_take (i := 11) (oi := ⟨some 48, _, _, _, _, _⟩) (v := ?vp11) rfl (by kernel_rfl) (by kernel_rfl) (by kernel_rfl) (fun _ _ _ h => h) (Or.inl ⟨by rfl, ?yp11⟩) (by assumption) ?rp11
        case yp11 => (intro w hSw; (try dsimp only at hSw); go_simp; (try (with_reducible rfl)))
        try simp only [Act.put, List.setIfInBounds_toArray, List.set_cons_zero, List.set_cons_succ]
        refine wpAnyH_take (i := 12) (oi := ⟨some 49, _, _, _, _, _⟩) (v := ?vp12) rfl (by kernel_rfl) (by kernel_rfl) (by kernel_rfl) (fun _ _ _ h => h) (Or.inl ⟨by rfl, ?yp12⟩) (by assumption) ?rp12
        case yp12 => (intro w hSw; (try dsimp only at hSw); go_simp; (try (with_reducible rfl)))
        try simp only [Act.put, List.setIfInBounds_toArray, List.set_cons_zero, List.set_cons_succ]
        refine wpAnyH_take (i := 13) (oi := ⟨some 50, _, _, _, _, _⟩) (v := ?vp13) rfl (by kernel_rfl) (by kernel_rfl) (by kernel_rfl) (fun _ _ _ h => h) (Or.inl ⟨by rfl, ?yp13⟩) (by assumption) ?rp13
        case yp13 => (intro w hSw; (try dsimp only at hSw); go_simp; (try (with_reducible rfl)))
        try simp only [Act.put, List.setIfInBounds_toArray, List.set_cons_zero, List.set_cons_succ]
        refine wpAnyH_take (i := 14) (oi := ⟨some 51, _, _, _, _, _⟩) (v := ?vp14) rfl (by kernel_rfl) (by kernel_rfl) (by kernel_rfl) (fun _ _ _ h => h) (Or.inl ⟨by rfl, ?yp14⟩) (by assumption) ?rp14
        case yp14 => (intro w hSw; (try dsimp only at hSw); go_simp; (try (with_reducible rfl)))
        try simp only [Act.put, List.setIfInBounds_toArray, List.set_cons_zero, List.set_cons_succ]
        refine wpAnyH_take (i := 15) (oi := ⟨some 52, _, _, _, _, _⟩) (v := ?vp15) rfl (by kernel_rfl) (by kernel_rfl) (by kernel_rfl) (fun _ _ _ h => h) (Or.inl ⟨by rfl, ?yp15⟩) (by assumption) ?rp15
        case yp15 => (intro w hSw; (try dsimp only at hSw); go_simp; (try (with_reducible rfl)))
        try simp only [Act.put, List.setIfInBounds_toArray, List.set_cons_zero, List.set_cons_succ]
        refine wpAnyH_take (i := 18) (oi := ⟨some 55, _, _, _, _, _⟩) (v := ?vp16) rfl (by kernel_rfl) (by kernel_rfl) (by kernel_rfl) (fun _ _ _ h => h) (Or.inl ⟨by rfl, ?yp16⟩) (by assumption) ?rp16
        case yp16 => (intro w hSw; (try dsimp only at hSw); go_simp; (try (with_reducible rfl)))
        try simp only [Act.put, List.setIfInBounds_toArray, List.set_cons_zero, List.set_cons_succ]
        refine wpAnyH_take (i := 19) (oi := ⟨some 56, _, _, _, _, _⟩) (v := ?vp17) rfl (by kernel_rfl) (by kernel_rfl) (by kernel_rfl) (fun _ _ _ h => h) (Or.inl ⟨by rfl, ?yp17⟩) (by assumption) ?rp17
        case yp17 => (intro w hSw; (try dsimp only at hSw); go_simp; (try (with_reducible rfl)))
        try simp only [Act.put, List.setIfInBounds_toArray, List.set_cons_zero, List.set_cons_succ]
        refine wpAnyH_take (i := 20) (oi := ⟨some 57, _, _, _, _, _⟩) (v := ?vp18) rfl (by kernel_rfl) (by kernel_rfl) (by kernel_rfl) (fun _ _ _ h => h) (Or.inl ⟨by rfl, ?yp18⟩) (by assumption) ?rp18
        case yp18 => (intro w hSw; (try dsimp only at hSw); go_simp; (try (with_reducible rfl)))
        try simp only [Act.put, List.setIfInBounds_toArray, List.set_cons_zero, List.set_cons_succ]
        refine wpAnyH_take (i := 21) (oi := ⟨some 58, _, _, _, _, _⟩) (v := ?vp19) rfl (by kernel_rfl) (by kernel_rfl) (by kernel_rfl) (fun _ _ _ h => h) (Or.inl ⟨by rfl, ?yp19⟩) (by assumption) ?rp19
        case yp19 => (intro w hSw; (try dsimp only at hSw); go_simp; (try (with_reducible rfl)))
        try simp only [Act.put, List.setIfInBounds_toArray, List.set_cons_zero, List.set_cons_succ]
        refine wpAnyH_take (i := 22) (oi := ⟨some 59, _, _, _, _, _⟩) (v := ?vp20) rfl (by kernel_rfl) (by kernel_rfl) (by kernel_rfl) (fun _ _ _ h => h) (Or.inl ⟨by rfl, ?yp20⟩) (by assumption) ?rp20
        case yp20 => (intro w hSw; (try dsimp only at hSw); go_simp; (try (with_reducible rfl)))
        try simp only [Act.put, List.setIfInBounds_toArray, List.set_cons_zero, List.set_cons_succ]
        refine wpAnyH_ready (rs := [16]) (by kernel_rfl) (by simp) (AllReadyH.cons (o := ⟨some 53, _, _, _, _, _⟩) rfl (fun K hK => ?_) AllReadyH.nil)
        go_simp
        refine (HFW.out _ HQ1.out).mono ?_
        rintro e wB ⟨oF, cF, rfl, howF, hbF⟩
        have HX2 := Lib.hid (HX1.out.below hbF)
        have HQ2 : Hid (Below N w wB) := HQ1.out.trans (hbF.mono (bnl HNN.out HQ1.out))
        have HOW2 : Hid (_ ≤ cF ∧ cF ≤ 9223372036854775807 ∧ RdR wB oF L) := (own_rdr howF).2
        have HKC := Lib.hid HX2.out.blk.two
        clear hbF howF HX1 HQ1
        go_simp
        refine hK.out _ _ ?_ (fun hHeld2 => ?_)
        · exact HKC.out
        clear hK K hHeld
        rename _ => hHeld
        try simp only [Act.put, List.setIfInBounds_toArray, List.set_cons_zero, List.set_cons_succ]
        refine wpAnyH_ready (rs := [17]) (by kernel_rfl) (by simp) (AllReadyH.cons (o := ⟨some 54, _, _, _, _, _⟩) rfl (fun K hK => ?_) AllReadyH.nil)
        go_simp
        refine (appendA (n := z) (i := 0) L oF cF (by omega) HOW2.out.1 HOW2.out.2.1 HLI.out (Nat.zero_le _) HOW2.out.2.2 (HTB.out _ HQ2.out) HG.out (fun _ => rfl) (Inv.new z) (by omega) HX2.out.a).mono ?_
        rintro e wC ⟨rfl, hsC⟩
        obtain ⟨hscC, hbkC, hblC, hstC⟩ := HX2.out.two hsC
        have HSC := Lib.hid hscC
        have HBK := Lib.hid hbkC
        have HST := Lib.hid hstC
        have HQ3 : Hid (Below N w wC) := HQ2.out.trans hblC
        have HKC := Lib.hid hbkC.two
        have hTq : Hid (∀ k, TA1 k → k < wC.heap.size) := fun k hk => (hscC.lt k hk).2
        clear hsC hscC hbkC hblC hstC HX2 HQ2 HOW2
        go_simp
        refine hK.out _ _ ?_ (fun hHeld2 => ?_)
        · exact HKC.out
        clear hK K hHeld
        rename _ => hHeld
        try simp only [Act.put, List.setIfInBounds_toArray, List.set_cons_zero, List.set_cons_succ]
        refine wpAnyH_ready (rs := [23]) (by kernel_rfl) (by simp) (AllReadyH.cons (o := ⟨some 60, _, _, _, _, _⟩) rfl (fun K hK => ?_) AllReadyH.nil)
        go_simp
        refine (HFW.out _ HQ3.out).mono ?_
        rintro e wD ⟨oF2, cF2, rfl, howF, hbF⟩
        have HSC4 : Hid (SC wD N r _ TA1 (newD z) (some ([], false))) := HSC.out.fr (Fr.under (fun _ => False) hbF) (fun _ _ e => e)
        have HST4 : Hid (∀ y2 w2, SideP (fun w x S => SC w N r x S (appC ⟨newD z, [], false⟩ L).2.D (some ((appC ⟨newD z, [], false⟩ L).2.R, (appC ⟨newD z, [], false⟩ L).2.br))) wD TA1 y2 w2 → _) := fun y2 w2 h => HST.out y2 w2 (h.after hbF)
        have HOW4 : Hid (_ ≤ cF2 ∧ cF2 ≤ 9223372036854775807 ∧ RdR wD oF2 L) := (own_rdr howF).2
        have HNS : Hid (∀ b o, oF2 = some ⟨b, o, none⟩ → ¬ TA1 b) := fun b o e h => by
          have h1 := hTq.out b h
          subst e
          have h2 := own_ge howF b rfl
          omega
        have HKC : Hid _ := (HBK.out.kept (hbF.block q HBK.out.lt)).two
        clear hbF howF
        go_simp
        refine hK.out _ _ ?_ (fun hHeld2 => ?_)
        · exact HKC.out
        clear hK K hHeld
        rename _ => hHeld
        try simp only [Act.put, List.setIfInBounds_toArray, List.set_cons_zero, List.set_cons_succ]
        refine wpAnyH_ready (rs := [24]) (by kernel_rfl) (by simp) (AllReadyH.cons (o := ⟨some 61, _, _, _, _, _⟩) rfl (fun K hK => ?_) AllReadyH.nil)
        go_simp
        refine (appendC (n := z) (i := 0) L oF2 cF2 (by omega) HLI.out (Nat.zero_le _) HOW4.out.2.2 HNS.out (fun _ => rfl) (Inv.new z) (by omega) (by omega) HSC4.out).mono ?_
        rintro e wE ⟨rfl, hsE⟩
        obtain ⟨hblE, _, S2, T2, _, hxE⟩ := HST4.out _ wE hsE
        have HX5 := Lib.hid (hxE rfl rfl)
        have HQ5 : Hid (Below N w wE) := HQ3.out.trans hblE
        have HKC := Lib.hid HX5.out.blk.two
        clear hsE hblE hxE
        go_simp
        refine hK.out _ _ ?_ (fun hHeld2 => ?_)
        · exact HKC.out
        clear hK K hHeld
        rename _ => hHeld
        try simp only [Act.put, List.setIfInBounds_toArray, List.set_cons_zero, List.set_cons_succ]
        refine wpAnyH_take (i := 25) (oi := ⟨some 62, _, _, _, _, _⟩) (v := .bool false) rfl (by kernel_rfl) (by kernel_rfl) (by kernel_rfl) (fun _ _ _ h => h) (Or.inl ⟨by rfl, ?yp21⟩) (by assumption) ?rp21
        case yp21 => (intro w hSw; (try dsimp only at hSw); go_simp; (first | done | (with_reducible rfl) | exact (bne_self_eq_false _) | simpa using (bne_self_eq_false _)))
        try simp only [Act.put, List.setIfInBounds_toArray, List.set_cons_zero, List.set_cons_succ]
        refine wpAnyH_take (i := 26) (oi := ⟨some 63, _, _, _, _, _⟩) (v := ?vp22) rfl (by kernel_rfl) (by kernel_rfl) (by kernel_rfl) (fun _ _ _ h => h) (Or.inl ⟨by rfl, ?yp22⟩) (by assumption) ?rp22
        case yp22 => (intro w hSw; (try dsimp only at hSw); go_simp; (try (with_reducible rfl)))
        try simp only [Act.put, List.setIfInBounds_toArray, List.set_cons_zero, List.set_cons_succ]
        refine wpAnyH_done (by kernel_rfl) ?_ _
        clear hHeld
        go_wp2_with fail
        go_meet
        exact ⟨rfl, _, _, _, _, _, _, HX5, HIV1, HQ5⟩
      case rest =>
        obtain ⟨rfl, D, o, x, y, S, T, HX, HI, HQ⟩ := hcut
        clear HX4 HB4 HIV1
        obtain ⟨Q, hQz, hcv⟩ := oneC cc u0 u1
        have hpd := pickI_bd at_ z (by omega)
        have HPK := Lib.hid (fun W => pick_any at_ z W a0 a1 (by omega) (by omega))
        obtain ⟨off, hoff⟩ : ∃ off, pickI at_ z = off := ⟨_, rfl⟩
        rw [hoff] at hpd HPK
        have HI2 : Hid (Inv (writeD D off Q) z 5) := HI.out.write _ _
        have HCV := Lib.hid hcv
        have HPD := Lib.hid hpd
        have HQZ := Lib.hid hQz
        clear hoff hpd hQz hcv
        go_upto_region 8 with (fail)
        obtain ⟨w0, rfl⟩ : ∃ w0 : World, w0 = wc := ⟨_, rfl⟩
        go_cut [72] from 64 to 73 (fun v wx => OMid N q b r D (writeD D off Q) o x y wx ∧ Below N w wx)
        case first =>
          have hcv := HCV.out w0.drew
          have HQ5 : Hid (Below N w w0.drew) := HQ.out.drew
          have HWA : Hid (Calls Tryz.prog 13 #[.pointer (some ⟨b, 0, none⟩), .int .i64 off, .string Q] (w0.drew.alloc (.cells #[.int .u8 cc] 5)) fun e w' => (∃ ew, e = .returned (.int .i64 ew)) ∧ Below N w0.drew w' ∧ OMid N q b r D (writeD D off Q) o x y w') := by
            have hb : Below w0.heap.size w0 (w0.drew.alloc (.cells #[.int .u8 cc] 5)) := (Below.refl _ _).drew.alloc (Nat.le_refl _) _
            have hb' : Below N w0.drew (w0.drew.alloc (.cells #[.int .u8 cc] 5)) := (Below.refl _ _).alloc (bnl HNN.out HQ5.out) _
            refine (wrA (HX.out.below hb) off Q (by have := HPD.out; omega) (by have := HPD.out; omega) (by rw [HQZ.out]; unfold maxLen; omega) HI.out (by omega)).mono ?_
            rintro e w' ⟨h1, h2, h3⟩
            exact ⟨h1, hb'.trans h2, h3⟩
          clear HX HQ HCV
          refine wp_region_held_drew (S := fun _ => True) (by kernel_rfl) ?_ (fun hHeld => ?_)
          · trivial
          generalize w0.drew = w5 at hcv HWA HQ5 hHeld ⊢
          refine wpAnyH_take (i := 0) (oi := ⟨some 64, _, _, _, _, _⟩) (v := ?vs1) rfl (by kernel_rfl) (by kernel_rfl) (by kernel_rfl) (fun _ _ _ h => h) (Or.inl ⟨by rfl, ?ys1⟩) (by assumption) ?rs1
          case ys1 => (intro w hSw; (try dsimp only at hSw); go_simp; (try (with_reducible rfl)))
          try simp only [Act.put, List.setIfInBounds_toArray, List.set_cons_zero, List.set_cons_succ]
          refine wpAnyH_take (i := 1) (oi := ⟨some 65, _, _, _, _, _⟩) (v := ?vs2) rfl (by kernel_rfl) (by kernel_rfl) (by kernel_rfl) (fun _ _ _ h => h) (Or.inl ⟨by rfl, ?ys2⟩) (by assumption) ?rs2
          case ys2 => (intro w hSw; (try dsimp only at hSw); go_simp; (try (with_reducible rfl)))
          try simp only [Act.put, List.setIfInBounds_toArray, List.set_cons_zero, List.set_cons_succ]
          refine wpAnyH_take (i := 2) (oi := ⟨some 66, _, _, _, _, _⟩) (v := ?vs3) rfl (by kernel_rfl) (by kernel_rfl) (by kernel_rfl) (fun _ _ _ h => h) (Or.inl ⟨by rfl, ?ys3⟩) (by assumption) ?rs3
          case ys3 => (intro w hSw; (try dsimp only at hSw); go_simp; (try (with_reducible rfl)))
          try simp only [Act.put, List.setIfInBounds_toArray, List.set_cons_zero, List.set_cons_succ]
          refine wpAnyH_take (i := 5) (oi := ⟨some 69, _, _, _, _, _⟩) (v := ?vs4) rfl (by kernel_rfl) (by kernel_rfl) (by kernel_rfl) (fun _ _ _ h => h) (Or.inl ⟨by rfl, ?ys4⟩) (by assumption) ?rs4
          case ys4 => (intro w hSw; (try dsimp only at hSw); go_simp; (try (with_reducible rfl)))
          try simp only [Act.put, List.setIfInBounds_toArray, List.set_cons_zero, List.set_cons_succ]
          refine wpAnyH_ready (rs := [3, 6]) (by kernel_rfl) (by simp) (AllReadyH.cons (o := ⟨some 67, _, _, _, _, _⟩) rfl (fun K hK => ?_) (AllReadyH.cons (o := ⟨some 70, _, _, _, _, _⟩) rfl (fun K hK => ?_) AllReadyH.nil))
          · skip
            go_simp
            refine (HSZ.out _).mono ?_
            rintro e w' ⟨rfl, rfl⟩
            go_simp
            refine hK.out _ _ ?_ (fun hHeld2 => ?_)
            · trivial
            clear hK K hHeld
            rename _ => hHeld
            try simp only [Act.put, List.setIfInBounds_toArray, List.set_cons_zero, List.set_cons_succ]
            refine wpAnyH_ready (rs := [4, 6]) (by kernel_rfl) (by simp) (AllReadyH.cons (o := ⟨some 68, _, _, _, _, _⟩) rfl (fun K hK => ?_) (AllReadyH.cons (o := ⟨some 70, _, _, _, _, _⟩) rfl (fun K hK => ?_) AllReadyH.nil))
            · skip
              go_simp
              refine (HPK.out _).mono ?_
              rintro e w' ⟨rfl, rfl⟩
              go_simp
              refine hK.out _ _ ?_ (fun hHeld2 => ?_)
              · trivial
              clear hK K hHeld
              rename _ => hHeld
              try simp only [Act.put, List.setIfInBounds_toArray, List.set_cons_zero, List.set_cons_succ]
              refine wpAnyH_ready (rs := [6]) (by kernel_rfl) (by simp) (AllReadyH.cons (o := ⟨some 70, _, _, _, _, _⟩) rfl (fun K hK => ?_) AllReadyH.nil)
              go_simp
              refine hK.out _ _ ?_ (fun hHeld2 => ?_)
              · trivial
              clear hK K hHeld
              rename _ => hHeld
              try simp only [Act.put, List.setIfInBounds_toArray, List.set_cons_zero, List.set_cons_succ]
              refine wpAnyH_ready (rs := [7]) (by kernel_rfl) (by simp) (AllReadyH.cons (o := ⟨some 71, _, _, _, _, _⟩) rfl (fun K hK => ?_) AllReadyH.nil)
              go_simp
              refine hK.out _ _ ?_ (fun hHeld2 => ?_)
              · trivial
              clear hK K hHeld
              rename _ => hHeld
              try simp only [Act.put, List.setIfInBounds_toArray, List.set_cons_zero, List.set_cons_succ]
              refine wpAnyH_ready (rs := [8]) (by kernel_rfl) (by simp) (AllReadyH.cons (o := ⟨some 72, _, _, _, _, _⟩) rfl (fun K hK => ?_) AllReadyH.nil)
              go_simp
              refine HWA.out.mono ?_
              rintro e wA ⟨⟨ew, rfl⟩, hbA, hmA⟩
              go_simp
              refine hK.out _ _ ?_ (fun hHeld2 => ?_)
              · trivial
              clear hK K hHeld
              rename _ => hHeld
              try simp only [Act.put, List.setIfInBounds_toArray, List.set_cons_zero, List.set_cons_succ]
              refine wpAnyH_done (by kernel_rfl) ?_ _
              clear hHeld
              go_wp2_with fail
              go_meet
              exact ⟨hmA, HQ5.out.trans hbA⟩
            · skip
              go_simp
              refine hK.out _ _ ?_ (fun hHeld2 => ?_)
              · trivial
              clear hK K hHeld
              rename _ => hHeld
              try simp only [Act.put, List.setIfInBounds_toArray, List.set_cons_zero, List.set_cons_succ]
              refine wpAnyH_ready (rs := [4, 7]) (by kernel_rfl) (by simp) (AllReadyH.cons (o := ⟨some 68, _, _, _, _, _⟩) rfl (fun K hK => ?_) (AllReadyH.cons (o := ⟨some 71, _, _, _, _, _⟩) rfl (fun K hK => ?_) AllReadyH.nil))
              · skip
                go_simp
                refine (HPK.out _).mono ?_
                rintro e w' ⟨rfl, rfl⟩
                go_simp
                refine hK.out _ _ ?_ (fun hHeld2 => ?_)
                · trivial
                clear hK K hHeld
                rename _ => hHeld
                try simp only [Act.put, List.setIfInBounds_toArray, List.set_cons_zero, List.set_cons_succ]
                refine wpAnyH_ready (rs := [7]) (by kernel_rfl) (by simp) (AllReadyH.cons (o := ⟨some 71, _, _, _, _, _⟩) rfl (fun K hK => ?_) AllReadyH.nil)
                go_simp
                refine hK.out _ _ ?_ (fun hHeld2 => ?_)
                · trivial
                clear hK K hHeld
                rename _ => hHeld
                try simp only [Act.put, List.setIfInBounds_toArray, List.set_cons_zero, List.set_cons_succ]
                refine wpAnyH_ready (rs := [8]) (by kernel_rfl) (by simp) (AllReadyH.cons (o := ⟨some 72, _, _, _, _, _⟩) rfl (fun K hK => ?_) AllReadyH.nil)
                go_simp
                refine HWA.out.mono ?_
                rintro e wA ⟨⟨ew, rfl⟩, hbA, hmA⟩
                go_simp
                refine hK.out _ _ ?_ (fun hHeld2 => ?_)
                · trivial
                clear hK K hHeld
                rename _ => hHeld
                try simp only [Act.put, List.setIfInBounds_toArray, List.set_cons_zero, List.set_cons_succ]
                refine wpAnyH_done (by kernel_rfl) ?_ _
                clear hHeld
                go_wp2_with fail
                go_meet
                exact ⟨hmA, HQ5.out.trans hbA⟩
              · skip
                go_simp
                refine hK.out _ _ ?_ (fun hHeld2 => ?_)
                · trivial
                clear hK K hHeld
                rename _ => hHeld
                try simp only [Act.put, List.setIfInBounds_toArray, List.set_cons_zero, List.set_cons_succ]
                refine wpAnyH_ready (rs := [4]) (by kernel_rfl) (by simp) (AllReadyH.cons (o := ⟨some 68, _, _, _, _, _⟩) rfl (fun K hK => ?_) AllReadyH.nil)
                go_simp
                refine (HPK.out _).mono ?_
                rintro e w' ⟨rfl, rfl⟩
                go_simp
                refine hK.out _ _ ?_ (fun hHeld2 => ?_)
                · trivial
                clear hK K hHeld
                rename _ => hHeld
                try simp only [Act.put, List.setIfInBounds_toArray, List.set_cons_zero, List.set_cons_succ]
                refine wpAnyH_ready (rs := [8]) (by kernel_rfl) (by simp) (AllReadyH.cons (o := ⟨some 72, _, _, _, _, _⟩) rfl (fun K hK => ?_) AllReadyH.nil)
                go_simp
                refine HWA.out.mono ?_
                rintro e wA ⟨⟨ew, rfl⟩, hbA, hmA⟩
                go_simp
                refine hK.out _ _ ?_ (fun hHeld2 => ?_)
                · trivial
                clear hK K hHeld
                rename _ => hHeld
                try simp only [Act.put, List.setIfInBounds_toArray, List.set_cons_zero, List.set_cons_succ]
                refine wpAnyH_done (by kernel_rfl) ?_ _
                clear hHeld
                go_wp2_with fail
                go_meet
                exact ⟨hmA, HQ5.out.trans hbA⟩
          · skip
            go_simp
            refine hK.out _ _ ?_ (fun hHeld2 => ?_)
            · trivial
            clear hK K hHeld
            rename _ => hHeld
            try simp only [Act.put, List.setIfInBounds_toArray, List.set_cons_zero, List.set_cons_succ]
            refine wpAnyH_ready (rs := [3, 7]) (by kernel_rfl) (by simp) (AllReadyH.cons (o := ⟨some 67, _, _, _, _, _⟩) rfl (fun K hK => ?_) (AllReadyH.cons (o := ⟨some 71, _, _, _, _, _⟩) rfl (fun K hK => ?_) AllReadyH.nil))
            · skip
              go_simp
              refine (HSZ.out _).mono ?_
              rintro e w' ⟨rfl, rfl⟩
              go_simp
              refine hK.out _ _ ?_ (fun hHeld2 => ?_)
              · trivial
              clear hK K hHeld
              rename _ => hHeld
              try simp only [Act.put, List.setIfInBounds_toArray, List.set_cons_zero, List.set_cons_succ]
              refine wpAnyH_ready (rs := [4, 7]) (by kernel_rfl) (by simp) (AllReadyH.cons (o := ⟨some 68, _, _, _, _, _⟩) rfl (fun K hK => ?_) (AllReadyH.cons (o := ⟨some 71, _, _, _, _, _⟩) rfl (fun K hK => ?_) AllReadyH.nil))
              · skip
                go_simp
                refine (HPK.out _).mono ?_
                rintro e w' ⟨rfl, rfl⟩
                go_simp
                refine hK.out _ _ ?_ (fun hHeld2 => ?_)
                · trivial
                clear hK K hHeld
                rename _ => hHeld
                try simp only [Act.put, List.setIfInBounds_toArray, List.set_cons_zero, List.set_cons_succ]
                refine wpAnyH_ready (rs := [7]) (by kernel_rfl) (by simp) (AllReadyH.cons (o := ⟨some 71, _, _, _, _, _⟩) rfl (fun K hK => ?_) AllReadyH.nil)
                go_simp
                refine hK.out _ _ ?_ (fun hHeld2 => ?_)
                · trivial
                clear hK K hHeld
                rename _ => hHeld
                try simp only [Act.put, List.setIfInBounds_toArray, List.set_cons_zero, List.set_cons_succ]
                refine wpAnyH_ready (rs := [8]) (by kernel_rfl) (by simp) (AllReadyH.cons (o := ⟨some 72, _, _, _, _, _⟩) rfl (fun K hK => ?_) AllReadyH.nil)
                go_simp
                refine HWA.out.mono ?_
                rintro e wA ⟨⟨ew, rfl⟩, hbA, hmA⟩
                go_simp
                refine hK.out _ _ ?_ (fun hHeld2 => ?_)
                · trivial
                clear hK K hHeld
                rename _ => hHeld
                try simp only [Act.put, List.setIfInBounds_toArray, List.set_cons_zero, List.set_cons_succ]
                refine wpAnyH_done (by kernel_rfl) ?_ _
                clear hHeld
                go_wp2_with fail
                go_meet
                exact ⟨hmA, HQ5.out.trans hbA⟩
              · skip
                go_simp
                refine hK.out _ _ ?_ (fun hHeld2 => ?_)
                · trivial
                clear hK K hHeld
                rename _ => hHeld
                try simp only [Act.put, List.setIfInBounds_toArray, List.set_cons_zero, List.set_cons_succ]
                refine wpAnyH_ready (rs := [4]) (by kernel_rfl) (by simp) (AllReadyH.cons (o := ⟨some 68, _, _, _, _, _⟩) rfl (fun K hK => ?_) AllReadyH.nil)
                go_simp
                refine (HPK.out _).mono ?_
                rintro e w' ⟨rfl, rfl⟩
                go_simp
                refine hK.out _ _ ?_ (fun hHeld2 => ?_)
                · trivial
                clear hK K hHeld
                rename _ => hHeld
                try simp only [Act.put, List.setIfInBounds_toArray, List.set_cons_zero, List.set_cons_succ]
                refine wpAnyH_ready (rs := [8]) (by kernel_rfl) (by simp) (AllReadyH.cons (o := ⟨some 72, _, _, _, _, _⟩) rfl (fun K hK => ?_) AllReadyH.nil)
                go_simp
                refine HWA.out.mono ?_
                rintro e wA ⟨⟨ew, rfl⟩, hbA, hmA⟩
                go_simp
                refine hK.out _ _ ?_ (fun hHeld2 => ?_)
                · trivial
                clear hK K hHeld
                rename _ => hHeld
                try simp only [Act.put, List.setIfInBounds_toArray, List.set_cons_zero, List.set_cons_succ]
                refine wpAnyH_done (by kernel_rfl) ?_ _
                clear hHeld
                go_wp2_with fail
                go_meet
                exact ⟨hmA, HQ5.out.trans hbA⟩
            · skip
              go_simp
              refine hK.out _ _ ?_ (fun hHeld2 => ?_)
              · trivial
              clear hK K hHeld
              rename _ => hHeld
              try simp only [Act.put, List.setIfInBounds_toArray, List.set_cons_zero, List.set_cons_succ]
              refine wpAnyH_ready (rs := [3]) (by kernel_rfl) (by simp) (AllReadyH.cons (o := ⟨some 67, _, _, _, _, _⟩) rfl (fun K hK => ?_) AllReadyH.nil)
              go_simp
              refine (HSZ.out _).mono ?_
              rintro e w' ⟨rfl, rfl⟩
              go_simp
              refine hK.out _ _ ?_ (fun hHeld2 => ?_)
              · trivial
              clear hK K hHeld
              rename _ => hHeld
              try simp only [Act.put, List.setIfInBounds_toArray, List.set_cons_zero, List.set_cons_succ]
              refine wpAnyH_ready (rs := [4]) (by kernel_rfl) (by simp) (AllReadyH.cons (o := ⟨some 68, _, _, _, _, _⟩) rfl (fun K hK => ?_) AllReadyH.nil)
              go_simp
              refine (HPK.out _).mono ?_
              rintro e w' ⟨rfl, rfl⟩
              go_simp
              refine hK.out _ _ ?_ (fun hHeld2 => ?_)
              · trivial
              clear hK K hHeld
              rename _ => hHeld
              try simp only [Act.put, List.setIfInBounds_toArray, List.set_cons_zero, List.set_cons_succ]
              refine wpAnyH_ready (rs := [8]) (by kernel_rfl) (by simp) (AllReadyH.cons (o := ⟨some 72, _, _, _, _, _⟩) rfl (fun K hK => ?_) AllReadyH.nil)
              go_simp
              refine HWA.out.mono ?_
              rintro e wA ⟨⟨ew, rfl⟩, hbA, hmA⟩
              go_simp
              refine hK.out _ _ ?_ (fun hHeld2 => ?_)
              · trivial
              clear hK K hHeld
              rename _ => hHeld
              try simp only [Act.put, List.setIfInBounds_toArray, List.set_cons_zero, List.set_cons_succ]
              refine wpAnyH_done (by kernel_rfl) ?_ _
              clear hHeld
              go_wp2_with fail
              go_meet
              exact ⟨hmA, HQ5.out.trans hbA⟩
        case rest =>
          obtain ⟨hmid, hbm⟩ := hcut
          obtain ⟨wd, rfl⟩ : ∃ wd : World, wd = wc := ⟨_, rfl⟩
          have HMD := Lib.hid hmid
          have HBM := Lib.hid hbm
          clear HX HQ hmid hbm
          go_upto_region 9 with (fail)
          have hcv := HCV.out wd.drew
          have HQ5 : Hid (Below N w wd.drew) := HBM.out.drew
          have HWC : Hid (Calls Tryz.prog 15 #[.pointer (some ⟨r, 0, none⟩), .int .i64 off, .string Q] (wd.drew.alloc (.cells #[.int .u8 cc] 5)) fun e w' => (∃ ew, e = .returned (.int .i64 ew)) ∧ Below N wd.drew w' ∧ ∃ S' T', WX w' N q b r (writeD D off Q) o x y S' T') := by
            have hb : Below wd.heap.size wd (wd.drew.alloc (.cells #[.int .u8 cc] 5)) := (Below.refl _ _).drew.alloc (Nat.le_refl _) _
            have hb' : Below N wd.drew (wd.drew.alloc (.cells #[.int .u8 cc] 5)) := (Below.refl _ _).alloc (bnl HNN.out HQ5.out) _
            refine (wrC off Q (HMD.out.below (bnl HNN.out HBM.out) hb) (by have := HPD.out; omega) (by have := HPD.out; omega) (by rw [HQZ.out]; unfold maxLen; omega) HI.out (by omega)).mono ?_
            rintro e w' ⟨h1, h2, h3⟩
            exact ⟨h1, hb'.trans h2, h3⟩
          clear HMD HBM HCV
          refine wp_region_held_drew (S := fun _ => True) (by kernel_rfl) ?_ (fun hHeld => ?_)
          · trivial
          generalize wd.drew = w5 at hcv HWC HQ5 hHeld ⊢
          refine wpAnyH_take (i := 0) (oi := ⟨some 73, _, _, _, _, _⟩) (v := ?vt1) rfl (by kernel_rfl) (by kernel_rfl) (by kernel_rfl) (fun _ _ _ h => h) (Or.inl ⟨by rfl, ?yt1⟩) (by assumption) ?rt1
          case yt1 => (intro w hSw; (try dsimp only at hSw); go_simp; (try (with_reducible rfl)))
          try simp only [Act.put, List.setIfInBounds_toArray, List.set_cons_zero, List.set_cons_succ]
          refine wpAnyH_take (i := 1) (oi := ⟨some 74, _, _, _, _, _⟩) (v := ?vt2) rfl (by kernel_rfl) (by kernel_rfl) (by kernel_rfl) (fun _ _ _ h => h) (Or.inl ⟨by rfl, ?yt2⟩) (by assumption) ?rt2
          case yt2 => (intro w hSw; (try dsimp only at hSw); go_simp; (try (with_reducible rfl)))
          try simp only [Act.put, List.setIfInBounds_toArray, List.set_cons_zero, List.set_cons_succ]
          refine wpAnyH_take (i := 2) (oi := ⟨some 75, _, _, _, _, _⟩) (v := ?vt3) rfl (by kernel_rfl) (by kernel_rfl) (by kernel_rfl) (fun _ _ _ h => h) (Or.inl ⟨by rfl, ?yt3⟩) (by assumption) ?rt3
          case yt3 => (intro w hSw; (try dsimp only at hSw); go_simp; (try (with_reducible rfl)))
          try simp only [Act.put, List.setIfInBounds_toArray, List.set_cons_zero, List.set_cons_succ]
          refine wpAnyH_take (i := 5) (oi := ⟨some 78, _, _, _, _, _⟩) (v := ?vt4) rfl (by kernel_rfl) (by kernel_rfl) (by kernel_rfl) (fun _ _ _ h => h) (Or.inl ⟨by rfl, ?yt4⟩) (by assumption) ?rt4
          case yt4 => (intro w hSw; (try dsimp only at hSw); go_simp; (try (with_reducible rfl)))
          try simp only [Act.put, List.setIfInBounds_toArray, List.set_cons_zero, List.set_cons_succ]
          refine wpAnyH_ready (rs := [3, 6]) (by kernel_rfl) (by simp) (AllReadyH.cons (o := ⟨some 76, _, _, _, _, _⟩) rfl (fun K hK => ?_) (AllReadyH.cons (o := ⟨some 79, _, _, _, _, _⟩) rfl (fun K hK => ?_) AllReadyH.nil))
          · skip
            go_simp
            refine (HSZ.out _).mono ?_
            rintro e w' ⟨rfl, rfl⟩
            go_simp
            refine hK.out _ _ ?_ (fun hHeld2 => ?_)
            · trivial
            clear hK K hHeld
            rename _ => hHeld
            try simp only [Act.put, List.setIfInBounds_toArray, List.set_cons_zero, List.set_cons_succ]
            refine wpAnyH_ready (rs := [4, 6]) (by kernel_rfl) (by simp) (AllReadyH.cons (o := ⟨some 77, _, _, _, _, _⟩) rfl (fun K hK => ?_) (AllReadyH.cons (o := ⟨some 79, _, _, _, _, _⟩) rfl (fun K hK => ?_) AllReadyH.nil))
            · skip
              go_simp
              refine (HPK.out _).mono ?_
              rintro e w' ⟨rfl, rfl⟩
              go_simp
              refine hK.out _ _ ?_ (fun hHeld2 => ?_)
              · trivial
              clear hK K hHeld
              rename _ => hHeld
              try simp only [Act.put, List.setIfInBounds_toArray, List.set_cons_zero, List.set_cons_succ]
              refine wpAnyH_ready (rs := [6]) (by kernel_rfl) (by simp) (AllReadyH.cons (o := ⟨some 79, _, _, _, _, _⟩) rfl (fun K hK => ?_) AllReadyH.nil)
              go_simp
              refine hK.out _ _ ?_ (fun hHeld2 => ?_)
              · trivial
              clear hK K hHeld
              rename _ => hHeld
              try simp only [Act.put, List.setIfInBounds_toArray, List.set_cons_zero, List.set_cons_succ]
              refine wpAnyH_ready (rs := [7]) (by kernel_rfl) (by simp) (AllReadyH.cons (o := ⟨some 80, _, _, _, _, _⟩) rfl (fun K hK => ?_) AllReadyH.nil)
              go_simp
              refine hK.out _ _ ?_ (fun hHeld2 => ?_)
              · trivial
              clear hK K hHeld
              rename _ => hHeld
              try simp only [Act.put, List.setIfInBounds_toArray, List.set_cons_zero, List.set_cons_succ]
              refine wpAnyH_ready (rs := [8]) (by kernel_rfl) (by simp) (AllReadyH.cons (o := ⟨some 81, _, _, _, _, _⟩) rfl (fun K hK => ?_) AllReadyH.nil)
              go_simp
              refine HWC.out.mono ?_
              rintro e wA ⟨⟨ew, rfl⟩, hbA, hmA⟩
              go_simp
              refine hK.out _ _ ?_ (fun hHeld2 => ?_)
              · trivial
              clear hK K hHeld
              rename _ => hHeld
              try simp only [Act.put, List.setIfInBounds_toArray, List.set_cons_zero, List.set_cons_succ]
              refine wpAnyH_done (by kernel_rfl) ?_ _
              clear hHeld
              go_wp2_with fail
              go_meet
              obtain ⟨S2, T2, hx2⟩ := hmA
              exact ⟨_, _, _, _, _, _, hx2, HI2.out.mono (by omega), HQ5.out.trans hbA⟩
            · skip
              go_simp
              refine hK.out _ _ ?_ (fun hHeld2 => ?_)
              · trivial
              clear hK K hHeld
              rename _ => hHeld
              try simp only [Act.put, List.setIfInBounds_toArray, List.set_cons_zero, List.set_cons_succ]
              refine wpAnyH_ready (rs := [4, 7]) (by kernel_rfl) (by simp) (AllReadyH.cons (o := ⟨some 77, _, _, _, _, _⟩) rfl (fun K hK => ?_) (AllReadyH.cons (o := ⟨some 80, _, _, _, _, _⟩) rfl (fun K hK => ?_) AllReadyH.nil))
              · skip
                go_simp
                refine (HPK.out _).mono ?_
                rintro e w' ⟨rfl, rfl⟩
                go_simp
                refine hK.out _ _ ?_ (fun hHeld2 => ?_)
                · trivial
                clear hK K hHeld
                rename _ => hHeld
                try simp only [Act.put, List.setIfInBounds_toArray, List.set_cons_zero, List.set_cons_succ]
                refine wpAnyH_ready (rs := [7]) (by kernel_rfl) (by simp) (AllReadyH.cons (o := ⟨some 80, _, _, _, _, _⟩) rfl (fun K hK => ?_) AllReadyH.nil)
                go_simp
                refine hK.out _ _ ?_ (fun hHeld2 => ?_)
                · trivial
                clear hK K hHeld
                rename _ => hHeld
                try simp only [Act.put, List.setIfInBounds_toArray, List.set_cons_zero, List.set_cons_succ]
                refine wpAnyH_ready (rs := [8]) (by kernel_rfl) (by simp) (AllReadyH.cons (o := ⟨some 81, _, _, _, _, _⟩) rfl (fun K hK => ?_) AllReadyH.nil)
                go_simp
                refine HWC.out.mono ?_
                rintro e wA ⟨⟨ew, rfl⟩, hbA, hmA⟩
                go_simp
                refine hK.out _ _ ?_ (fun hHeld2 => ?_)
                · trivial
                clear hK K hHeld
                rename _ => hHeld
                try simp only [Act.put, List.setIfInBounds_toArray, List.set_cons_zero, List.set_cons_succ]
                refine wpAnyH_done (by kernel_rfl) ?_ _
                clear hHeld
                go_wp2_with fail
                go_meet
                obtain ⟨S2, T2, hx2⟩ := hmA
                exact ⟨_, _, _, _, _, _, hx2, HI2.out.mono (by omega), HQ5.out.trans hbA⟩
              · skip
                go_simp
                refine hK.out _ _ ?_ (fun hHeld2 => ?_)
                · trivial
                clear hK K hHeld
                rename _ => hHeld
                try simp only [Act.put, List.setIfInBounds_toArray, List.set_cons_zero, List.set_cons_succ]
                refine wpAnyH_ready (rs := [4]) (by kernel_rfl) (by simp) (AllReadyH.cons (o := ⟨some 77, _, _, _, _, _⟩) rfl (fun K hK => ?_) AllReadyH.nil)
                go_simp
                refine (HPK.out _).mono ?_
                rintro e w' ⟨rfl, rfl⟩
                go_simp
                refine hK.out _ _ ?_ (fun hHeld2 => ?_)
                · trivial
                clear hK K hHeld
                rename _ => hHeld
                try simp only [Act.put, List.setIfInBounds_toArray, List.set_cons_zero, List.set_cons_succ]
                refine wpAnyH_ready (rs := [8]) (by kernel_rfl) (by simp) (AllReadyH.cons (o := ⟨some 81, _, _, _, _, _⟩) rfl (fun K hK => ?_) AllReadyH.nil)
                go_simp
                refine HWC.out.mono ?_
                rintro e wA ⟨⟨ew, rfl⟩, hbA, hmA⟩
                go_simp
                refine hK.out _ _ ?_ (fun hHeld2 => ?_)
                · trivial
                clear hK K hHeld
                rename _ => hHeld
                try simp only [Act.put, List.setIfInBounds_toArray, List.set_cons_zero, List.set_cons_succ]
                refine wpAnyH_done (by kernel_rfl) ?_ _
                clear hHeld
                go_wp2_with fail
                go_meet
                obtain ⟨S2, T2, hx2⟩ := hmA
                exact ⟨_, _, _, _, _, _, hx2, HI2.out.mono (by omega), HQ5.out.trans hbA⟩
          · skip
            go_simp
            refine hK.out _ _ ?_ (fun hHeld2 => ?_)
            · trivial
            clear hK K hHeld
            rename _ => hHeld
            try simp only [Act.put, List.setIfInBounds_toArray, List.set_cons_zero, List.set_cons_succ]
            refine wpAnyH_ready (rs := [3, 7]) (by kernel_rfl) (by simp) (AllReadyH.cons (o := ⟨some 76, _, _, _, _, _⟩) rfl (fun K hK => ?_) (AllReadyH.cons (o := ⟨some 80, _, _, _, _, _⟩) rfl (fun K hK => ?_) AllReadyH.nil))
            · skip
              go_simp
              refine (HSZ.out _).mono ?_
              rintro e w' ⟨rfl, rfl⟩
              go_simp
              refine hK.out _ _ ?_ (fun hHeld2 => ?_)
              · trivial
              clear hK K hHeld
              rename _ => hHeld
              try simp only [Act.put, List.setIfInBounds_toArray, List.set_cons_zero, List.set_cons_succ]
              refine wpAnyH_ready (rs := [4, 7]) (by kernel_rfl) (by simp) (AllReadyH.cons (o := ⟨some 77, _, _, _, _, _⟩) rfl (fun K hK => ?_) (AllReadyH.cons (o := ⟨some 80, _, _, _, _, _⟩) rfl (fun K hK => ?_) AllReadyH.nil))
              · skip
                go_simp
                refine (HPK.out _).mono ?_
                rintro e w' ⟨rfl, rfl⟩
                go_simp
                refine hK.out _ _ ?_ (fun hHeld2 => ?_)
                · trivial
                clear hK K hHeld
                rename _ => hHeld
                try simp only [Act.put, List.setIfInBounds_toArray, List.set_cons_zero, List.set_cons_succ]
                refine wpAnyH_ready (rs := [7]) (by kernel_rfl) (by simp) (AllReadyH.cons (o := ⟨some 80, _, _, _, _, _⟩) rfl (fun K hK => ?_) AllReadyH.nil)
                go_simp
                refine hK.out _ _ ?_ (fun hHeld2 => ?_)
                · trivial
                clear hK K hHeld
                rename _ => hHeld
                try simp only [Act.put, List.setIfInBounds_toArray, List.set_cons_zero, List.set_cons_succ]
                refine wpAnyH_ready (rs := [8]) (by kernel_rfl) (by simp) (AllReadyH.cons (o := ⟨some 81, _, _, _, _, _⟩) rfl (fun K hK => ?_) AllReadyH.nil)
                go_simp
                refine HWC.out.mono ?_
                rintro e wA ⟨⟨ew, rfl⟩, hbA, hmA⟩
                go_simp
                refine hK.out _ _ ?_ (fun hHeld2 => ?_)
                · trivial
                clear hK K hHeld
                rename _ => hHeld
                try simp only [Act.put, List.setIfInBounds_toArray, List.set_cons_zero, List.set_cons_succ]
                refine wpAnyH_done (by kernel_rfl) ?_ _
                clear hHeld
                go_wp2_with fail
                go_meet
                obtain ⟨S2, T2, hx2⟩ := hmA
                exact ⟨_, _, _, _, _, _, hx2, HI2.out.mono (by omega), HQ5.out.trans hbA⟩
              · skip
                go_simp
                refine hK.out _ _ ?_ (fun hHeld2 => ?_)
                · trivial
                clear hK K hHeld
                rename _ => hHeld
                try simp only [Act.put, List.setIfInBounds_toArray, List.set_cons_zero, List.set_cons_succ]
                refine wpAnyH_ready (rs := [4]) (by kernel_rfl) (by simp) (AllReadyH.cons (o := ⟨some 77, _, _, _, _, _⟩) rfl (fun K hK => ?_) AllReadyH.nil)
                go_simp
                refine (HPK.out _).mono ?_
                rintro e w' ⟨rfl, rfl⟩
                go_simp
                refine hK.out _ _ ?_ (fun hHeld2 => ?_)
                · trivial
                clear hK K hHeld
                rename _ => hHeld
                try simp only [Act.put, List.setIfInBounds_toArray, List.set_cons_zero, List.set_cons_succ]
                refine wpAnyH_ready (rs := [8]) (by kernel_rfl) (by simp) (AllReadyH.cons (o := ⟨some 81, _, _, _, _, _⟩) rfl (fun K hK => ?_) AllReadyH.nil)
                go_simp
                refine HWC.out.mono ?_
                rintro e wA ⟨⟨ew, rfl⟩, hbA, hmA⟩
                go_simp
                refine hK.out _ _ ?_ (fun hHeld2 => ?_)
                · trivial
                clear hK K hHeld
                rename _ => hHeld
                try simp only [Act.put, List.setIfInBounds_toArray, List.set_cons_zero, List.set_cons_succ]
                refine wpAnyH_done (by kernel_rfl) ?_ _
                clear hHeld
                go_wp2_with fail
                go_meet
                obtain ⟨S2, T2, hx2⟩ := hmA
                exact ⟨_, _, _, _, _, _, hx2, HI2.out.mono (by omega), HQ5.out.trans hbA⟩
            · skip
              go_simp
              refine hK.out _ _ ?_ (fun hHeld2 => ?_)
              · trivial
              clear hK K hHeld
              rename _ => hHeld
              try simp only [Act.put, List.setIfInBounds_toArray, List.set_cons_zero, List.set_cons_succ]
              refine wpAnyH_ready (rs := [3]) (by kernel_rfl) (by simp) (AllReadyH.cons (o := ⟨some 76, _, _, _, _, _⟩) rfl (fun K hK => ?_) AllReadyH.nil)
              go_simp
              refine (HSZ.out _).mono ?_
              rintro e w' ⟨rfl, rfl⟩
              go_simp
              refine hK.out _ _ ?_ (fun hHeld2 => ?_)
              · trivial
              clear hK K hHeld
              rename _ => hHeld
              try simp only [Act.put, List.setIfInBounds_toArray, List.set_cons_zero, List.set_cons_succ]
              refine wpAnyH_ready (rs := [4]) (by kernel_rfl) (by simp) (AllReadyH.cons (o := ⟨some 77, _, _, _, _, _⟩) rfl (fun K hK => ?_) AllReadyH.nil)
              go_simp
              refine (HPK.out _).mono ?_
              rintro e w' ⟨rfl, rfl⟩
              go_simp
              refine hK.out _ _ ?_ (fun hHeld2 => ?_)
              · trivial
              clear hK K hHeld
              rename _ => hHeld
              try simp only [Act.put, List.setIfInBounds_toArray, List.set_cons_zero, List.set_cons_succ]
              refine wpAnyH_ready (rs := [8]) (by kernel_rfl) (by simp) (AllReadyH.cons (o := ⟨some 81, _, _, _, _, _⟩) rfl (fun K hK => ?_) AllReadyH.nil)
              go_simp
              refine HWC.out.mono ?_
              rintro e wA ⟨⟨ew, rfl⟩, hbA, hmA⟩
              go_simp
              refine hK.out _ _ ?_ (fun hHeld2 => ?_)
              · trivial
              clear hK K hHeld
              rename _ => hHeld
              try simp only [Act.put, List.setIfInBounds_toArray, List.set_cons_zero, List.set_cons_succ]
              refine wpAnyH_done (by kernel_rfl) ?_ _
              clear hHeld
              go_wp2_with fail
              go_meet
              obtain ⟨S2, T2, hx2⟩ := hmA
              exact ⟨_, _, _, _, _, _, hx2, HI2.out.mono (by omega), HQ5.out.trans hbA⟩
  case rest =>
    obtain ⟨D, o, x, y, S, T, HX, HI, HQ⟩ := hcut
    obtain ⟨w0, rfl⟩ : ∃ w0 : World, w0 = wc := ⟨_, rfl⟩
    clear HX4 HB4
    have HOW := Lib.hid (openW w0 N q b r D o x y S T z 9 HX.out (HTB.out _ HQ.out) HI.out (by omega) (by omega))
    clear HX
    go_wp2_with fail
    refine HOW.out.mono ?_
    rintro e wA ⟨rfl, hbA, xA, yA, S1, T1, hxA⟩
    have HQ1 : Hid (Below N w wA) := HQ.out.trans hbA
    clear HOW HQ hbA
    by_cases he : openE D = 0
    · have hoo : openO D = some (openR D, false) := by unfold openO; rw [if_pos he]
      rw [hoo] at hxA
      have hlo := openE_lost he
      have hfit := openR_fit HI.out
      have hiv := HI.out.opened
      obtain ⟨R, hR⟩ : ∃ R, openR D = R := ⟨_, rfl⟩
      obtain ⟨D1, hD1⟩ : ∃ D1, openD D = D1 := ⟨_, rfl⟩
      rw [hR] at hxA hfit
      rw [hD1] at hxA hlo hiv
      obtain ⟨bl, FA, GA, rfl, hlx, _⟩ := hxA.a.ptr
      obtain ⟨cl, FC, GC, rfl, hrl, _⟩ := hxA.c.ptr
      obtain ⟨vr, p1, p2, _⟩ := hrl.ex
      obtain ⟨oR, nR, cR, hvr⟩ : ∃ oR nR cR, vr = .slice oR nR cR := by
        rcases p2.recs.2 with ⟨h1, h0⟩ | ⟨g, cap, _, h1, _⟩
        · exact ⟨none, 0, 0, h1⟩
        · exact ⟨_, _, _, h1⟩
      subst hvr
      obtain ⟨d0, d2, d3, d4⟩ := p2.rd
      have d1 : R.length = nR := Eq.symm d0
      obtain ⟨M, hM⟩ : ∃ M, wA.heap.size = M := ⟨_, rfl⟩
      have hB : ∀ W', Below M wA W' → Below wA.heap.size wA W' := fun W' h => by rw [hM]; exact h
      obtain ⟨E, hE⟩ : ∃ E, endN R = E := ⟨_, rfl⟩
      have hRl : 33 * R.length ≤ endN R := (logL_bd zero32 R).2
      have hvl : D1.vis.length = z := hiv.len
      have HKP : Hid (∀ W', Below M wA W' → W'.cell? ⟨q, 1, none⟩ = some (.pointer (some ⟨bl, 0, none⟩)) ∧ W'.cell? ⟨q, 3, none⟩ = some (.pointer (some ⟨cl, 0, none⟩)) ∧ W'.cell? ⟨cl, 1, none⟩ = some (.slice oR nR cR)) := fun W' hW => ⟨(hxA.below (hB W' hW)).blk.cell 1, (hxA.below (hB W' hW)).blk.cell 3, (p2.below (hB W' hW)).blk.cell 1⟩
      have HREC : Hid (∀ W', Below M wA W' → _) := fun W' hW => records_x W' N b bl FA GA ⟨D1, R, false⟩ (by show R.length ≤ _; omega) (hlx.below (hB W' hW))
      have HRR : Hid (∀ W', Below M wA W' → RdR W' oR R) := fun W' hW => (show RdR wA oR R from d4).kept (hB W' hW)
      have HRM : Hid (∀ W', Below M wA W' → Calls Tryz.prog 18 #[.pointer (some ⟨bl, 0, none⟩)] W' fun e w' => e = .returned (.int .i64 ((z : Int) - (E : Int))) ∧ Below W'.heap.size W' w') := fun W' hW => by
        have := room_x W' N b bl FA GA ⟨D1, R, false⟩ (by show endN R ≤ _; omega) (hlx.below (hB W' hW))
        dsimp only at this
        rw [hvl, hE] at this
        exact this
      have HRC : Hid (∀ W', Below M wA W' → Calls Tryz.prog 19 #[.pointer (some ⟨cl, 0, none⟩)] W' fun e w' => e = .returned (.int .i64 ((z : Int) - (E : Int))) ∧ Below W'.heap.size W' w') := fun W' hW => by
        have := refRoom_any W' N r cl FC (.slice oR nR cR) D1 R false z _ hiv (by omega) (p1.below (hB W' hW)) (p2.below (hB W' hW))
        rw [hE] at this
        refine this.mono ?_
        rintro e w' ⟨he, k, rfl⟩
        exact ⟨he, drewN_below (Below.refl _ _) k⟩
      obtain ⟨V, hV⟩ : ∃ V : ByteArray, (⟨D1.vis.toArray⟩ : ByteArray) = V := ⟨_, rfl⟩
      have HCT : Hid (∀ W', Below M wA W' → Calls Tryz.prog 20 #[.pointer (some ⟨b, 0, none⟩)] W' fun e w' => e = .returned (.string V) ∧ Below W'.heap.size W' w') := fun W' hW => by
        have := content_x W' N b FA D1 (hlx.below (hB W' hW)).disk hlo
        rw [hV] at this
        exact this
      have HVI : Hid (∀ W', Below M wA W' → Calls Tryz.prog 21 #[.pointer (some ⟨r, 0, none⟩)] W' fun e w' => ∃ gs kc, e = .returned (.slice (some ⟨gs, 0, none⟩) z kc) ∧ (convert 42 9 (.slice (some ⟨gs, 0, none⟩) z kc)).run Tryz.prog w' = .ok (.string V) w' ∧ Below W'.heap.size W' w') := fun W' hW => by
        refine (refVis_x W' N r FC D1 z _ hiv (by omega) (p1.below (hB W' hW))).mono ?_
        rintro e w' ⟨gs, kc, he, ⟨rest, hk⟩, h1, h2, h3⟩
        refine ⟨gs, kc, he, ?_, h3⟩
        have := conv_blkR hk 0 z kc (by omega)
        rw [List.drop_zero, List.take_of_length_le (by omega), hV] at this
        exact this
      have HRN := Lib.hid d1
      have HM := Lib.hid hM
      have hnR : nR ≤ 10000 := by omega
      have HQ : Hid (Below M wA wA.drew) := (Below.refl _ _).drew
      clear hxA hlx hrl p1 p2 d0 d1 d2 d3 d4 hB hE hRl hvl hV hlo hfit hiv hoo he HI hR hD1 hM
      go_upto_region 14 with (fail)
      refine wp_region_held_drew (S := fun W => W.cell? ⟨q, 1, none⟩ = some (.pointer (some ⟨bl, 0, none⟩)) ∧ W.cell? ⟨q, 3, none⟩ = some (.pointer (some ⟨cl, 0, none⟩)) ∧ W.cell? ⟨cl, 1, none⟩ = some (.slice oR nR cR)) (by kernel_rfl) ?_ (fun hHeld => ?_)
      · exact HKP.out _ HQ.out
      generalize wA.drew = z0 at HQ hHeld ⊢
      refine wpAnyH_take (i := 0) (oi := ⟨some 103, _, _, _, _, _⟩) (v := ?vu1) rfl (by kernel_rfl) (by kernel_rfl) (by kernel_rfl) (fun _ _ _ h => h) (Or.inl ⟨by rfl, ?yu1⟩) (by assumption) ?ru1
      case yu1 => (intro w hSw; (try dsimp only at hSw); go_simp; (try (with_reducible rfl)))
      try simp only [Act.put, List.setIfInBounds_toArray, List.set_cons_zero, List.set_cons_succ]
      refine wpAnyH_take (i := 1) (oi := ⟨some 104, _, _, _, _, _⟩) (v := ?vu2) rfl (by kernel_rfl) (by kernel_rfl) (by kernel_rfl) (fun _ _ _ h => h) (Or.inl ⟨by rfl, ?yu2⟩) (by assumption) ?ru2
      case yu2 => (intro w hSw; (try dsimp only at hSw); go_simp; (try (with_reducible rfl)))
      try simp only [Act.put, List.setIfInBounds_toArray, List.set_cons_zero, List.set_cons_succ]
      refine wpAnyH_take (i := 2) (oi := ⟨some 105, _, _, _, _, _⟩) (v := ?vu3) rfl (by kernel_rfl) (by kernel_rfl) (by kernel_rfl) (fun _ _ _ h => h) (Or.inl ⟨by rfl, ?yu3⟩) (by assumption) ?ru3
      case yu3 => (intro w hSw; (try dsimp only at hSw); go_simp; (try (with_reducible rfl)))
      try simp only [Act.put, List.setIfInBounds_toArray, List.set_cons_zero, List.set_cons_succ]
      refine wpAnyH_take (i := 3) (oi := ⟨some 106, _, _, _, _, _⟩) (v := ?vu4) rfl (by kernel_rfl) (by kernel_rfl) (by kernel_rfl) (fun _ _ _ h => h) (Or.inl ⟨by rfl, ?yu4⟩) (by assumption) ?ru4
      case yu4 => (intro w hSw; (try dsimp only at hSw); go_simp; (try (with_reducible rfl)))
      try simp only [Act.put, List.setIfInBounds_toArray, List.set_cons_zero, List.set_cons_succ]
      refine wpAnyH_take (i := 4) (oi := ⟨some 107, _, _, _, _, _⟩) (v := ?vu5) rfl (by kernel_rfl) (by kernel_rfl) (by kernel_rfl) (fun _ _ _ h => h) (Or.inl ⟨by rfl, ?yu5⟩) (by assumption) ?ru5
      case yu5 => (intro w hSw; (try dsimp only at hSw); go_simp; (try (with_reducible rfl)))
      try simp only [Act.put, List.setIfInBounds_toArray, List.set_cons_zero, List.set_cons_succ]
      refine wpAnyH_take (i := 5) (oi := ⟨some 108, _, _, _, _, _⟩) (v := ?vu6) rfl (by kernel_rfl) (by kernel_rfl) (by kernel_rfl) (fun _ _ _ h => h) (Or.inl ⟨by rfl, ?yu6⟩) (by assumption) ?ru6
      case yu6 => (intro w hSw; (try dsimp only at hSw); go_simp; (try (with_reducible rfl)))
      try simp only [Act.put, List.setIfInBounds_toArray, List.set_cons_zero, List.set_cons_succ]
      refine wpAnyH_take (i := 6) (oi := ⟨some 109, _, _, _, _, _⟩) (v := ?vu7) rfl (by kernel_rfl) (by kernel_rfl) (by kernel_rfl) (fun _ _ _ h => h) (Or.inl ⟨by rfl, ?yu7⟩) (by assumption) ?ru7
      case yu7 => (intro w hSw; (try dsimp only at hSw); go_simp; (try (with_reducible rfl)))
      try simp only [Act.put, List.setIfInBounds_toArray, List.set_cons_zero, List.set_cons_succ]
      refine wpAnyH_take (i := 7) (oi := ⟨some 110, _, _, _, _, _⟩) (v := ?vu8) rfl (by kernel_rfl) (by kernel_rfl) (by kernel_rfl) (fun _ _ _ h => h) (Or.inl ⟨by rfl, ?yu8⟩) (by assumption) ?ru8
      case yu8 => (intro w hSw; (try dsimp only at hSw); go_simp; (try (with_reducible rfl)))
      try simp only [Act.put, List.setIfInBounds_toArray, List.set_cons_zero, List.set_cons_succ]
      refine wpAnyH_take (i := 8) (oi := ⟨some 111, _, _, _, _, _⟩) (v := ?vu9) rfl (by kernel_rfl) (by kernel_rfl) (by kernel_rfl) (fun _ _ _ h => h) (Or.inl ⟨by rfl, ?yu9⟩) (by assumption) ?ru9
      case yu9 => (intro w hSw; (try dsimp only at hSw); go_simp; (try (with_reducible rfl)))
      try simp only [Act.put, List.setIfInBounds_toArray, List.set_cons_zero, List.set_cons_succ]
      refine wpAnyH_take (i := 9) (oi := ⟨some 112, _, _, _, _, _⟩) (v := ?vu10) rfl (by kernel_rfl) (by kernel_rfl) (by kernel_rfl) (fun _ _ _ h => h) (Or.inl ⟨by rfl, ?yu10⟩) (by assumption) ?ru10
      case yu10 => (intro w hSw; (try dsimp only at hSw); go_simp; (try (with_reducible rfl)))
      try simp only [Act.put, List.setIfInBounds_toArray, List.set_cons_zero, List.set_cons_succ]
      refine wpAnyH_take (i := 10) (oi := ⟨some 113, _, _, _, _, _⟩) (v := ?vu11) rfl (by kernel_rfl) (by kernel_rfl) (by kernel_rfl) (fun _ _ _ h => h) (Or.inl ⟨by rfl, ?yu11⟩) (by assumption) ?ru11
      case yu11 => (intro w hSw; (try dsimp only at hSw); go_simp; (try (with_reducible rfl)))
      try simp only [Act.put, List.setIfInBounds_toArray, List.set_cons_zero, List.set_cons_succ]
      refine wpAnyH_take (i := 11) (oi := ⟨some 114, _, _, _, _, _⟩) (v := ?vu12) rfl (by kernel_rfl) (by kernel_rfl) (by kernel_rfl) (fun _ _ _ h => h) (Or.inl ⟨by rfl, ?yu12⟩) (by assumption) ?ru12
      case yu12 => (intro w hSw; (try dsimp only at hSw); go_simp; (try (with_reducible rfl)))
      try simp only [Act.put, List.setIfInBounds_toArray, List.set_cons_zero, List.set_cons_succ]
      refine wpAnyH_take (i := 13) (oi := ⟨some 116, _, _, _, _, _⟩) (v := ?vu13) rfl (by kernel_rfl) (by kernel_rfl) (by kernel_rfl) (fun _ _ _ h => h) (Or.inl ⟨by rfl, ?yu13⟩) (by assumption) ?ru13
      case yu13 => (intro w hSw; (try dsimp only at hSw); go_simp; (try (with_reducible rfl)))
      try simp only [Act.put, List.setIfInBounds_toArray, List.set_cons_zero, List.set_cons_succ]
      refine wpAnyH_take (i := 14) (oi := ⟨some 117, _, _, _, _, _⟩) (v := ?vu14) rfl (by kernel_rfl) (by kernel_rfl) (by kernel_rfl) (fun _ _ _ h => h) (Or.inl ⟨by rfl, ?yu14⟩) (by assumption) ?ru14
      case yu14 => (intro w hSw; (try dsimp only at hSw); go_simp; (try (with_reducible rfl)))
      try simp only [Act.put, List.setIfInBounds_toArray, List.set_cons_zero, List.set_cons_succ]
      refine wpAnyH_take (i := 15) (oi := ⟨some 118, _, _, _, _, _⟩) (v := ?vu15) rfl (by kernel_rfl) (by kernel_rfl) (by kernel_rfl) (fun _ _ _ h => h) (Or.inl ⟨by rfl, ?yu15⟩) (by assumption) ?ru15
      case yu15 => (intro w hSw; (try dsimp only at hSw); go_simp; (try (with_reducible rfl)))
      try simp only [Act.put, List.setIfInBounds_toArray, List.set_cons_zero, List.set_cons_succ]
      refine wpAnyH_take (i := 16) (oi := ⟨some 119, _, _, _, _, _⟩) (v := ?vu16) rfl (by kernel_rfl) (by kernel_rfl) (by kernel_rfl) (fun _ _ _ h => h) (Or.inl ⟨by rfl, ?yu16⟩) (by assumption) ?ru16
      case yu16 => (intro w hSw; (try dsimp only at hSw); go_simp; (try (with_reducible rfl)))
      try simp only [Act.put, List.setIfInBounds_toArray, List.set_cons_zero, List.set_cons_succ]
      refine wpAnyH_take (i := 17) (oi := ⟨some 120, _, _, _, _, _⟩) (v := ?vu17) rfl (by kernel_rfl) (by kernel_rfl) (by kernel_rfl) (fun _ _ _ h => h) (Or.inl ⟨by rfl, ?yu17⟩) (by assumption) ?ru17
      case yu17 => (intro w hSw; (try dsimp only at hSw); go_simp; (try (with_reducible rfl)))
      try simp only [Act.put, List.setIfInBounds_toArray, List.set_cons_zero, List.set_cons_succ]
      refine wpAnyH_take (i := 18) (oi := ⟨some 121, _, _, _, _, _⟩) (v := ?vu18) rfl (by kernel_rfl) (by kernel_rfl) (by kernel_rfl) (fun _ _ _ h => h) (Or.inl ⟨by rfl, ?yu18⟩) (by assumption) ?ru18
      case yu18 => (intro w hSw; (try dsimp only at hSw); go_simp; (try (with_reducible rfl)))
      try simp only [Act.put, List.setIfInBounds_toArray, List.set_cons_zero, List.set_cons_succ]
      refine wpAnyH_take (i := 19) (oi := ⟨some 122, _, _, _, _, _⟩) (v := ?vu19) rfl (by kernel_rfl) (by kernel_rfl) (by kernel_rfl) (fun _ _ _ h => h) (Or.inl ⟨by rfl, ?yu19⟩) (by assumption) ?ru19
      case yu19 => (intro w hSw; (try dsimp only at hSw); go_simp; (try (with_reducible rfl)))
      try simp only [Act.put, List.setIfInBounds_toArray, List.set_cons_zero, List.set_cons_succ]
      refine wpAnyH_ready (rs := [12]) (by kernel_rfl) (by simp) (AllReadyH.cons (o := ⟨some 115, _, _, _, _, _⟩) rfl (fun K hK => ?_) AllReadyH.nil)
      go_simp
      refine (HREC.out _ HQ.out).mono ?_
      rintro e z1 ⟨o1, k1, rfl, how, hbz⟩
      have HQ : Hid (Below M wA z1) := HQ.out.trans (hbz.mono (bnl HM.out HQ.out))
      have HR1 : Hid (RdR z1 o1 R) := (own_rdr how).2.2.2
      rw [HRN.out]
      clear how hbz
      go_simp
      refine hK.out _ _ ?_ (fun hHeld2 => ?_)
      · exact HKP.out _ HQ.out
      clear hK K hHeld
      rename _ => hHeld
      try simp only [Act.put, List.setIfInBounds_toArray, List.set_cons_zero, List.set_cons_succ]
      refine wpAnyH_ready (rs := [20]) (by kernel_rfl) (by simp) (AllReadyH.cons (o := ⟨some 123, _, _, _, _, _⟩) rfl (fun K hK => ?_) AllReadyH.nil)
      go_simp
      refine (same25_eq R o1 oR nR k1 cR z1 HRN.out (by unfold maxLen; omega) HR1.out (HRR.out _ HQ.out)).mono ?_
      rintro e z2 ⟨rfl, hbz⟩
      have HQ : Hid (Below M wA z2) := HQ.out.trans (hbz.mono (bnl HM.out HQ.out))
      clear hbz HR1
      go_simp
      refine hK.out _ _ ?_ (fun hHeld2 => ?_)
      · exact HKP.out _ HQ.out
      clear hK K hHeld
      rename _ => hHeld
      try simp only [Act.put, List.setIfInBounds_toArray, List.set_cons_zero, List.set_cons_succ]
      refine wpAnyH_take (i := 21) (oi := ⟨some 124, _, _, _, _, _⟩) (v := ?vu20) rfl (by kernel_rfl) (by kernel_rfl) (by kernel_rfl) (fun _ _ _ h => h) (Or.inl ⟨by rfl, ?yu20⟩) (by assumption) ?ru20
      case yu20 => (intro w hSw; (try dsimp only at hSw); go_simp; (try (with_reducible rfl)))
      try simp only [Act.put, List.setIfInBounds_toArray, List.set_cons_zero, List.set_cons_succ]
      refine wpAnyH_take (i := 22) (oi := ⟨some 125, _, _, _, _, _⟩) (v := ?vu21) rfl (by kernel_rfl) (by kernel_rfl) (by kernel_rfl) (fun _ _ _ h => h) (Or.inl ⟨by rfl, ?yu21⟩) (by assumption) ?ru21
      case yu21 => (intro w hSw; (try dsimp only at hSw); go_simp; (try (with_reducible rfl)))
      try simp only [Act.put, List.setIfInBounds_toArray, List.set_cons_zero, List.set_cons_succ]
      refine wpAnyH_take (i := 23) (oi := ⟨some 126, _, _, _, _, _⟩) (v := ?vu22) rfl (by kernel_rfl) (by kernel_rfl) (by kernel_rfl) (fun _ _ _ h => h) (Or.inl ⟨by rfl, ?yu22⟩) (by assumption) ?ru22
      case yu22 => (intro w hSw; (try dsimp only at hSw); go_simp; (try (with_reducible rfl)))
      try simp only [Act.put, List.setIfInBounds_toArray, List.set_cons_zero, List.set_cons_succ]
      refine wpAnyH_take (i := 24) (oi := ⟨some 127, _, _, _, _, _⟩) (v := ?vu23) rfl (by kernel_rfl) (by kernel_rfl) (by kernel_rfl) (fun _ _ _ h => h) (Or.inl ⟨by rfl, ?yu23⟩) (by assumption) ?ru23
      case yu23 => (intro w hSw; (try dsimp only at hSw); go_simp; (try (with_reducible rfl)))
      try simp only [Act.put, List.setIfInBounds_toArray, List.set_cons_zero, List.set_cons_succ]
      refine wpAnyH_take (i := 25) (oi := ⟨some 128, _, _, _, _, _⟩) (v := ?vu24) rfl (by kernel_rfl) (by kernel_rfl) (by kernel_rfl) (fun _ _ _ h => h) (Or.inl ⟨by rfl, ?yu24⟩) (by assumption) ?ru24
      case yu24 => (intro w hSw; (try dsimp only at hSw); go_simp; (try (with_reducible rfl)))
      try simp only [Act.put, List.setIfInBounds_toArray, List.set_cons_zero, List.set_cons_succ]
      refine wpAnyH_take (i := 27) (oi := ⟨some 130, _, _, _, _, _⟩) (v := ?vu25) rfl (by kernel_rfl) (by kernel_rfl) (by kernel_rfl) (fun _ _ _ h => h) (Or.inl ⟨by rfl, ?yu25⟩) (by assumption) ?ru25
      case yu25 => (intro w hSw; (try dsimp only at hSw); go_simp; (try (with_reducible rfl)))
      try simp only [Act.put, List.setIfInBounds_toArray, List.set_cons_zero, List.set_cons_succ]
      refine wpAnyH_take (i := 28) (oi := ⟨some 131, _, _, _, _, _⟩) (v := ?vu26) rfl (by kernel_rfl) (by kernel_rfl) (by kernel_rfl) (fun _ _ _ h => h) (Or.inl ⟨by rfl, ?yu26⟩) (by assumption) ?ru26
      case yu26 => (intro w hSw; (try dsimp only at hSw); go_simp; (try (with_reducible rfl)))
      try simp only [Act.put, List.setIfInBounds_toArray, List.set_cons_zero, List.set_cons_succ]
      refine wpAnyH_take (i := 29) (oi := ⟨some 132, _, _, _, _, _⟩) (v := ?vu27) rfl (by kernel_rfl) (by kernel_rfl) (by kernel_rfl) (fun _ _ _ h => h) (Or.inl ⟨by rfl, ?yu27⟩) (by assumption) ?ru27
      case yu27 => (intro w hSw; (try dsimp only at hSw); go_simp; (try (with_reducible rfl)))
      try simp only [Act.put, List.setIfInBounds_toArray, List.set_cons_zero, List.set_cons_succ]
      refine wpAnyH_take (i := 30) (oi := ⟨some 133, _, _, _, _, _⟩) (v := ?vu28) rfl (by kernel_rfl) (by kernel_rfl) (by kernel_rfl) (fun _ _ _ h => h) (Or.inl ⟨by rfl, ?yu28⟩) (by assumption) ?ru28
      case yu28 => (intro w hSw; (try dsimp only at hSw); go_simp; (try (with_reducible rfl)))
      try simp only [Act.put, List.setIfInBounds_toArray, List.set_cons_zero, List.set_cons_succ]
      refine wpAnyH_ready (rs := [26]) (by kernel_rfl) (by simp) (AllReadyH.cons (o := ⟨some 129, _, _, _, _, _⟩) rfl (fun K hK => ?_) AllReadyH.nil)
      go_simp
      refine (HRM.out _ HQ.out).mono ?_
      rintro e z3 ⟨rfl, hbz⟩
      have HQ : Hid (Below M wA z3) := HQ.out.trans (hbz.mono (bnl HM.out HQ.out))
      clear hbz
      go_simp
      refine hK.out _ _ ?_ (fun hHeld2 => ?_)
      · exact HKP.out _ HQ.out
      clear hK K hHeld
      rename _ => hHeld
      try simp only [Act.put, List.setIfInBounds_toArray, List.set_cons_zero, List.set_cons_succ]
      refine wpAnyH_ready (rs := [31]) (by kernel_rfl) (by simp) (AllReadyH.cons (o := ⟨some 134, _, _, _, _, _⟩) rfl (fun K hK => ?_) AllReadyH.nil)
      go_simp
      refine (HRC.out _ HQ.out).mono ?_
      rintro e z4 ⟨rfl, hbz⟩
      have HQ : Hid (Below M wA z4) := HQ.out.trans (hbz.mono (bnl HM.out HQ.out))
      clear hbz
      go_simp
      refine hK.out _ _ ?_ (fun hHeld2 => ?_)
      · exact HKP.out _ HQ.out
      clear hK K hHeld
      rename _ => hHeld
      try simp only [Act.put, List.setIfInBounds_toArray, List.set_cons_zero, List.set_cons_succ]
      refine wpAnyH_take (i := 32) (oi := ⟨some 135, _, _, _, _, _⟩) (v := ?vu29) rfl (by kernel_rfl) (by kernel_rfl) (by kernel_rfl) (fun _ _ _ h => h) (Or.inl ⟨by rfl, ?yu29⟩) (by assumption) ?ru29
      case yu29 => (intro w hSw; (try dsimp only at hSw); go_simp; (try (with_reducible rfl)))
      try simp only [Act.put, List.setIfInBounds_toArray, List.set_cons_zero, List.set_cons_succ]
      refine wpAnyH_take (i := 33) (oi := ⟨some 136, _, _, _, _, _⟩) (v := ?vu30) rfl (by kernel_rfl) (by kernel_rfl) (by kernel_rfl) (fun _ _ _ h => h) (Or.inl ⟨by rfl, ?yu30⟩) (by assumption) ?ru30
      case yu30 => (intro w hSw; (try dsimp only at hSw); go_simp; (try (with_reducible rfl)))
      try simp only [Act.put, List.setIfInBounds_toArray, List.set_cons_zero, List.set_cons_succ]
      refine wpAnyH_take (i := 34) (oi := ⟨some 137, _, _, _, _, _⟩) (v := ?vu31) rfl (by kernel_rfl) (by kernel_rfl) (by kernel_rfl) (fun _ _ _ h => h) (Or.inl ⟨by rfl, ?yu31⟩) (by assumption) ?ru31
      case yu31 => (intro w hSw; (try dsimp only at hSw); go_simp; (try (with_reducible rfl)))
      try simp only [Act.put, List.setIfInBounds_toArray, List.set_cons_zero, List.set_cons_succ]
      refine wpAnyH_take (i := 35) (oi := ⟨some 138, _, _, _, _, _⟩) (v := ?vu32) rfl (by kernel_rfl) (by kernel_rfl) (by kernel_rfl) (fun _ _ _ h => h) (Or.inl ⟨by rfl, ?yu32⟩) (by assumption) ?ru32
      case yu32 => (intro w hSw; (try dsimp only at hSw); go_simp; (try (with_reducible rfl)))
      try simp only [Act.put, List.setIfInBounds_toArray, List.set_cons_zero, List.set_cons_succ]
      refine wpAnyH_take (i := 37) (oi := ⟨some 140, _, _, _, _, _⟩) (v := ?vu33) rfl (by kernel_rfl) (by kernel_rfl) (by kernel_rfl) (fun _ _ _ h => h) (Or.inl ⟨by rfl, ?yu33⟩) (by assumption) ?ru33
      case yu33 => (intro w hSw; (try dsimp only at hSw); go_simp; (try (with_reducible rfl)))
      try simp only [Act.put, List.setIfInBounds_toArray, List.set_cons_zero, List.set_cons_succ]
      refine wpAnyH_ready (rs := [36]) (by kernel_rfl) (by simp) (AllReadyH.cons (o := ⟨some 139, _, _, _, _, _⟩) rfl (fun K hK => ?_) AllReadyH.nil)
      go_simp
      refine (HCT.out _ HQ.out).mono ?_
      rintro e z5 ⟨rfl, hbz⟩
      have HQ : Hid (Below M wA z5) := HQ.out.trans (hbz.mono (bnl HM.out HQ.out))
      clear hbz
      go_simp
      refine hK.out _ _ ?_ (fun hHeld2 => ?_)
      · exact HKP.out _ HQ.out
      clear hK K hHeld
      rename _ => hHeld
      try simp only [Act.put, List.setIfInBounds_toArray, List.set_cons_zero, List.set_cons_succ]
      refine wpAnyH_ready (rs := [38]) (by kernel_rfl) (by simp) (AllReadyH.cons (o := ⟨some 141, _, _, _, _, _⟩) rfl (fun K hK => ?_) AllReadyH.nil)
      go_simp
      refine (HVI.out _ HQ.out).mono ?_
      rintro e z6 ⟨gs, kc, rfl, hcv, hbz⟩
      have HQ : Hid (Below M wA z6) := HQ.out.trans (hbz.mono (bnl HM.out HQ.out))
      clear hbz
      go_simp
      refine hK.out _ _ ?_ (fun hHeld2 => ?_)
      · exact HKP.out _ HQ.out
      clear hK K hHeld
      rename _ => hHeld
      try simp only [Act.put, List.setIfInBounds_toArray, List.set_cons_zero, List.set_cons_succ]
      refine wpAnyH_ready (rs := [39]) (by kernel_rfl) (by simp) (AllReadyH.cons (o := ⟨some 142, _, _, _, _, _⟩) rfl (fun K hK => ?_) AllReadyH.nil)
      go_simp
      refine hK.out _ _ ?_ (fun hHeld2 => ?_)
      · exact HKP.out _ HQ.out
      clear hK K hHeld
      rename _ => hHeld
      try simp only [Act.put, List.setIfInBounds_toArray, List.set_cons_zero, List.set_cons_succ]
      refine wpAnyH_take (i := 40) (oi := ⟨some 143, _, _, _, _, _⟩) (v := ?vu34) rfl (by kernel_rfl) (by kernel_rfl) (by kernel_rfl) (fun _ _ _ h => h) (Or.inl ⟨by rfl, ?yu34⟩) (by assumption) ?ru34
      case yu34 => (intro w hSw; (try dsimp only at hSw); go_simp; (try (with_reducible rfl)))
      try simp only [Act.put, List.setIfInBounds_toArray, List.set_cons_zero, List.set_cons_succ]
      refine wpAnyH_take (i := 41) (oi := ⟨some 144, _, _, _, _, _⟩) (v := ?vu35) rfl (by kernel_rfl) (by kernel_rfl) (by kernel_rfl) (fun _ _ _ h => h) (Or.inl ⟨by rfl, ?yu35⟩) (by assumption) ?ru35
      case yu35 => (intro w hSw; (try dsimp only at hSw); go_simp; (try (with_reducible rfl)))
      try simp only [Act.put, List.setIfInBounds_toArray, List.set_cons_zero, List.set_cons_succ]
      refine wpAnyH_take (i := 42) (oi := ⟨some 145, _, _, _, _, _⟩) (v := ?vu36) rfl (by kernel_rfl) (by kernel_rfl) (by kernel_rfl) (fun _ _ _ h => h) (Or.inl ⟨by rfl, ?yu36⟩) (by assumption) ?ru36
      case yu36 => (intro w hSw; (try dsimp only at hSw); go_simp; (try (with_reducible rfl)))
      try simp only [Act.put, List.setIfInBounds_toArray, List.set_cons_zero, List.set_cons_succ]
      refine wpAnyH_take (i := 43) (oi := ⟨some 146, _, _, _, _, _⟩) (v := ?vu37) rfl (by kernel_rfl) (by kernel_rfl) (by kernel_rfl) (fun _ _ _ h => h) (Or.inl ⟨by rfl, ?yu37⟩) (by assumption) ?ru37
      case yu37 => (intro w hSw; (try dsimp only at hSw); go_simp; (try (with_reducible rfl)))
      try simp only [Act.put, List.setIfInBounds_toArray, List.set_cons_zero, List.set_cons_succ]
      refine wpAnyH_take (i := 44) (oi := ⟨some 10, _, _, _, _, _⟩) (v := ?vu38) rfl (by kernel_rfl) (by kernel_rfl) (by kernel_rfl) (fun _ _ _ h => h) (Or.inl ⟨by rfl, ?yu38⟩) (by assumption) ?ru38
      case yu38 => (intro w hSw; (try dsimp only at hSw); go_simp; (try (with_reducible rfl)))
      try simp only [Act.put, List.setIfInBounds_toArray, List.set_cons_zero, List.set_cons_succ]
      refine wpAnyH_done (by kernel_rfl) ?_ _
      clear hHeld
      go_wp2_with fail
      go_ret
      exact ⟨rfl, by rw [HNN.out]; exact HQ1.out.trans (HQ.out.mono (by rw [← HM.out]; exact bnl HNN.out HQ1.out))⟩
    · have hoo : openO D = none := by unfold openO; rw [if_neg he]
      rw [hoo] at hxA
      obtain ⟨rfl, _⟩ := hxA.a.nil
      have c1 : wA.drew.cell? ⟨q, 1, none⟩ = some (.pointer none) := hxA.blk.cell 1
      clear hxA hoo he HI
      go_upto_region 14 with (fail)
      refine wp_region_held_drew (S := fun W => W.cell? ⟨q, 1, none⟩ = some (.pointer none)) (by kernel_rfl) ?_ (fun hHeld => ?_)
      · exact c1
      refine wpAnyH_take (i := 0) (oi := ⟨some 103, _, _, _, _, _⟩) (v := ?vv1) rfl (by kernel_rfl) (by kernel_rfl) (by kernel_rfl) (fun _ _ _ h => h) (Or.inl ⟨by rfl, ?yv1⟩) (by assumption) ?rv1
      case yv1 => (intro w hSw; (try dsimp only at hSw); go_simp; (try (with_reducible rfl)))
      try simp only [Act.put, List.setIfInBounds_toArray, List.set_cons_zero, List.set_cons_succ]
      refine wpAnyH_take (i := 1) (oi := ⟨some 104, _, _, _, _, _⟩) (v := ?vv2) rfl (by kernel_rfl) (by kernel_rfl) (by kernel_rfl) (fun _ _ _ h => h) (Or.inl ⟨by rfl, ?yv2⟩) (by assumption) ?rv2
      case yv2 => (intro w hSw; (try dsimp only at hSw); go_simp; (try (with_reducible rfl)))
      try simp only [Act.put, List.setIfInBounds_toArray, List.set_cons_zero, List.set_cons_succ]
      refine wpAnyH_take (i := 2) (oi := ⟨some 105, _, _, _, _, _⟩) (v := ?vv3) rfl (by kernel_rfl) (by kernel_rfl) (by kernel_rfl) (fun _ _ _ h => h) (Or.inl ⟨by rfl, ?yv3⟩) (by assumption) ?rv3
      case yv3 => (intro w hSw; (try dsimp only at hSw); go_simp; (try (with_reducible rfl)))
      try simp only [Act.put, List.setIfInBounds_toArray, List.set_cons_zero, List.set_cons_succ]
      refine wpAnyH_take (i := 3) (oi := ⟨some 106, _, _, _, _, _⟩) (v := ?vv4) rfl (by kernel_rfl) (by kernel_rfl) (by kernel_rfl) (fun _ _ _ h => h) (Or.inl ⟨by rfl, ?yv4⟩) (by assumption) ?rv4
      case yv4 => (intro w hSw; (try dsimp only at hSw); go_simp; (try (with_reducible rfl)))
      try simp only [Act.put, List.setIfInBounds_toArray, List.set_cons_zero, List.set_cons_succ]
      refine wpAnyH_take (i := 4) (oi := ⟨some 107, _, _, _, _, _⟩) (v := ?vv5) rfl (by kernel_rfl) (by kernel_rfl) (by kernel_rfl) (fun _ _ _ h => h) (Or.inl ⟨by rfl, ?yv5⟩) (by assumption) ?rv5
      case yv5 => (intro w hSw; (try dsimp only at hSw); go_simp; (try (with_reducible rfl)))
      try simp only [Act.put, List.setIfInBounds_toArray, List.set_cons_zero, List.set_cons_succ]
      refine wpAnyH_take (i := 5) (oi := ⟨some 108, _, _, _, _, _⟩) (v := ?vv6) rfl (by kernel_rfl) (by kernel_rfl) (by kernel_rfl) (fun _ _ _ h => h) (Or.inl ⟨by rfl, ?yv6⟩) (by assumption) ?rv6
      case yv6 => (intro w hSw; (try dsimp only at hSw); go_simp; (try (with_reducible rfl)))
      try simp only [Act.put, List.setIfInBounds_toArray, List.set_cons_zero, List.set_cons_succ]
      refine wpAnyH_take (i := 6) (oi := ⟨some 109, _, _, _, _, _⟩) (v := ?vv7) rfl (by kernel_rfl) (by kernel_rfl) (by kernel_rfl) (fun _ _ _ h => h) (Or.inl ⟨by rfl, ?yv7⟩) (by assumption) ?rv7
      case yv7 => (intro w hSw; (try dsimp only at hSw); go_simp; (try (with_reducible rfl)))
      try simp only [Act.put, List.setIfInBounds_toArray, List.set_cons_zero, List.set_cons_succ]
      refine wpAnyH_take (i := 7) (oi := ⟨some 110, _, _, _, _, _⟩) (v := ?vv8) rfl (by kernel_rfl) (by kernel_rfl) (by kernel_rfl) (fun _ _ _ h => h) (Or.inl ⟨by rfl, ?yv8⟩) (by assumption) ?rv8
      case yv8 => (intro w hSw; (try dsimp only at hSw); go_simp; (try (with_reducible rfl)))
      try simp only [Act.put, List.setIfInBounds_toArray, List.set_cons_zero, List.set_cons_succ]
      refine wpAnyH_take (i := 8) (oi := ⟨some 111, _, _, _, _, _⟩) (v := undef) rfl (by kernel_rfl) (by kernel_rfl) (by kernel_rfl) (fun _ _ _ h => h) (Or.inr ⟨by rfl, rfl⟩) (by assumption) ?_
      try simp only [Act.put, List.setIfInBounds_toArray, List.set_cons_zero, List.set_cons_succ]
      refine wpAnyH_take (i := 9) (oi := ⟨some 112, _, _, _, _, _⟩) (v := undef) rfl (by kernel_rfl) (by kernel_rfl) (by kernel_rfl) (fun _ _ _ h => h) (Or.inr ⟨by rfl, rfl⟩) (by assumption) ?_
      try simp only [Act.put, List.setIfInBounds_toArray, List.set_cons_zero, List.set_cons_succ]
      refine wpAnyH_take (i := 10) (oi := ⟨some 113, _, _, _, _, _⟩) (v := undef) rfl (by kernel_rfl) (by kernel_rfl) (by kernel_rfl) (fun _ _ _ h => h) (Or.inr ⟨by rfl, rfl⟩) (by assumption) ?_
      try simp only [Act.put, List.setIfInBounds_toArray, List.set_cons_zero, List.set_cons_succ]
      refine wpAnyH_take (i := 11) (oi := ⟨some 114, _, _, _, _, _⟩) (v := undef) rfl (by kernel_rfl) (by kernel_rfl) (by kernel_rfl) (fun _ _ _ h => h) (Or.inr ⟨by rfl, rfl⟩) (by assumption) ?_
      try simp only [Act.put, List.setIfInBounds_toArray, List.set_cons_zero, List.set_cons_succ]
      refine wpAnyH_take (i := 12) (oi := ⟨some 115, _, _, _, _, _⟩) (v := undef) rfl (by kernel_rfl) (by kernel_rfl) (by kernel_rfl) (fun _ _ _ h => h) (Or.inr ⟨by rfl, rfl⟩) (by assumption) ?_
      try simp only [Act.put, List.setIfInBounds_toArray, List.set_cons_zero, List.set_cons_succ]
      refine wpAnyH_take (i := 13) (oi := ⟨some 116, _, _, _, _, _⟩) (v := undef) rfl (by kernel_rfl) (by kernel_rfl) (by kernel_rfl) (fun _ _ _ h => h) (Or.inr ⟨by rfl, rfl⟩) (by assumption) ?_
      try simp only [Act.put, List.setIfInBounds_toArray, List.set_cons_zero, List.set_cons_succ]
      refine wpAnyH_take (i := 14) (oi := ⟨some 117, _, _, _, _, _⟩) (v := undef) rfl (by kernel_rfl) (by kernel_rfl) (by kernel_rfl) (fun _ _ _ h => h) (Or.inr ⟨by rfl, rfl⟩) (by assumption) ?_
      try simp only [Act.put, List.setIfInBounds_toArray, List.set_cons_zero, List.set_cons_succ]
      refine wpAnyH_take (i := 15) (oi := ⟨some 118, _, _, _, _, _⟩) (v := undef) rfl (by kernel_rfl) (by kernel_rfl) (by kernel_rfl) (fun _ _ _ h => h) (Or.inr ⟨by rfl, rfl⟩) (by assumption) ?_
      try simp only [Act.put, List.setIfInBounds_toArray, List.set_cons_zero, List.set_cons_succ]
      refine wpAnyH_take (i := 16) (oi := ⟨some 119, _, _, _, _, _⟩) (v := undef) rfl (by kernel_rfl) (by kernel_rfl) (by kernel_rfl) (fun _ _ _ h => h) (Or.inr ⟨by rfl, rfl⟩) (by assumption) ?_
      try simp only [Act.put, List.setIfInBounds_toArray, List.set_cons_zero, List.set_cons_succ]
      refine wpAnyH_take (i := 17) (oi := ⟨some 120, _, _, _, _, _⟩) (v := undef) rfl (by kernel_rfl) (by kernel_rfl) (by kernel_rfl) (fun _ _ _ h => h) (Or.inr ⟨by rfl, rfl⟩) (by assumption) ?_
      try simp only [Act.put, List.setIfInBounds_toArray, List.set_cons_zero, List.set_cons_succ]
      refine wpAnyH_take (i := 18) (oi := ⟨some 121, _, _, _, _, _⟩) (v := undef) rfl (by kernel_rfl) (by kernel_rfl) (by kernel_rfl) (fun _ _ _ h => h) (Or.inr ⟨by rfl, rfl⟩) (by assumption) ?_
      try simp only [Act.put, List.setIfInBounds_toArray, List.set_cons_zero, List.set_cons_succ]
      refine wpAnyH_take (i := 19) (oi := ⟨some 122, _, _, _, _, _⟩) (v := undef) rfl (by kernel_rfl) (by kernel_rfl) (by kernel_rfl) (fun _ _ _ h => h) (Or.inr ⟨by rfl, rfl⟩) (by assumption) ?_
      try simp only [Act.put, List.setIfInBounds_toArray, List.set_cons_zero, List.set_cons_succ]
      refine wpAnyH_take (i := 20) (oi := ⟨some 123, _, _, _, _, _⟩) (v := undef) rfl (by kernel_rfl) (by kernel_rfl) (by kernel_rfl) (fun _ _ _ h => h) (Or.inr ⟨by rfl, rfl⟩) (by assumption) ?_
      try simp only [Act.put, List.setIfInBounds_toArray, List.set_cons_zero, List.set_cons_succ]
      refine wpAnyH_take (i := 21) (oi := ⟨some 124, _, _, _, _, _⟩) (v := undef) rfl (by kernel_rfl) (by kernel_rfl) (by kernel_rfl) (fun _ _ _ h => h) (Or.inr ⟨by rfl, rfl⟩) (by assumption) ?_
      try simp only [Act.put, List.setIfInBounds_toArray, List.set_cons_zero, List.set_cons_succ]
      refine wpAnyH_take (i := 22) (oi := ⟨some 125, _, _, _, _, _⟩) (v := undef) rfl (by kernel_rfl) (by kernel_rfl) (by kernel_rfl) (fun _ _ _ h => h) (Or.inr ⟨by rfl, rfl⟩) (by assumption) ?_
      try simp only [Act.put, List.setIfInBounds_toArray, List.set_cons_zero, List.set_cons_succ]
      refine wpAnyH_take (i := 23) (oi := ⟨some 126, _, _, _, _, _⟩) (v := undef) rfl (by kernel_rfl) (by kernel_rfl) (by kernel_rfl) (fun _ _ _ h => h) (Or.inr ⟨by rfl, rfl⟩) (by assumption) ?_
      try simp only [Act.put, List.setIfInBounds_toArray, List.set_cons_zero, List.set_cons_succ]
      refine wpAnyH_take (i := 24) (oi := ⟨some 127, _, _, _, _, _⟩) (v := undef) rfl (by kernel_rfl) (by kernel_rfl) (by kernel_rfl) (fun _ _ _ h => h) (Or.inr ⟨by rfl, rfl⟩) (by assumption) ?_
      try simp only [Act.put, List.setIfInBounds_toArray, List.set_cons_zero, List.set_cons_succ]
      refine wpAnyH_take (i := 25) (oi := ⟨some 128, _, _, _, _, _⟩) (v := undef) rfl (by kernel_rfl) (by kernel_rfl) (by kernel_rfl) (fun _ _ _ h => h) (Or.inr ⟨by rfl, rfl⟩) (by assumption) ?_
      try simp only [Act.put, List.setIfInBounds_toArray, List.set_cons_zero, List.set_cons_succ]
      refine wpAnyH_take (i := 26) (oi := ⟨some 129, _, _, _, _, _⟩) (v := undef) rfl (by kernel_rfl) (by kernel_rfl) (by kernel_rfl) (fun _ _ _ h => h) (Or.inr ⟨by rfl, rfl⟩) (by assumption) ?_
      try simp only [Act.put, List.setIfInBounds_toArray, List.set_cons_zero, List.set_cons_succ]
      refine wpAnyH_take (i := 27) (oi := ⟨some 130, _, _, _, _, _⟩) (v := undef) rfl (by kernel_rfl) (by kernel_rfl) (by kernel_rfl) (fun _ _ _ h => h) (Or.inr ⟨by rfl, rfl⟩) (by assumption) ?_
      try simp only [Act.put, List.setIfInBounds_toArray, List.set_cons_zero, List.set_cons_succ]
      refine wpAnyH_take (i := 28) (oi := ⟨some 131, _, _, _, _, _⟩) (v := undef) rfl (by kernel_rfl) (by kernel_rfl) (by kernel_rfl) (fun _ _ _ h => h) (Or.inr ⟨by rfl, rfl⟩) (by assumption) ?_
      try simp only [Act.put, List.setIfInBounds_toArray, List.set_cons_zero, List.set_cons_succ]
      refine wpAnyH_take (i := 29) (oi := ⟨some 132, _, _, _, _, _⟩) (v := undef) rfl (by kernel_rfl) (by kernel_rfl) (by kernel_rfl) (fun _ _ _ h => h) (Or.inr ⟨by rfl, rfl⟩) (by assumption) ?_
      try simp only [Act.put, List.setIfInBounds_toArray, List.set_cons_zero, List.set_cons_succ]
      refine wpAnyH_take (i := 30) (oi := ⟨some 133, _, _, _, _, _⟩) (v := undef) rfl (by kernel_rfl) (by kernel_rfl) (by kernel_rfl) (fun _ _ _ h => h) (Or.inr ⟨by rfl, rfl⟩) (by assumption) ?_
      try simp only [Act.put, List.setIfInBounds_toArray, List.set_cons_zero, List.set_cons_succ]
      refine wpAnyH_take (i := 31) (oi := ⟨some 134, _, _, _, _, _⟩) (v := undef) rfl (by kernel_rfl) (by kernel_rfl) (by kernel_rfl) (fun _ _ _ h => h) (Or.inr ⟨by rfl, rfl⟩) (by assumption) ?_
      try simp only [Act.put, List.setIfInBounds_toArray, List.set_cons_zero, List.set_cons_succ]
      refine wpAnyH_take (i := 32) (oi := ⟨some 135, _, _, _, _, _⟩) (v := undef) rfl (by kernel_rfl) (by kernel_rfl) (by kernel_rfl) (fun _ _ _ h => h) (Or.inr ⟨by rfl, rfl⟩) (by assumption) ?_
      try simp only [Act.put, List.setIfInBounds_toArray, List.set_cons_zero, List.set_cons_succ]
      refine wpAnyH_take (i := 33) (oi := ⟨some 136, _, _, _, _, _⟩) (v := undef) rfl (by kernel_rfl) (by kernel_rfl) (by kernel_rfl) (fun _ _ _ h => h) (Or.inr ⟨by rfl, rfl⟩) (by assumption) ?_
      try simp only [Act.put, List.setIfInBounds_toArray, List.set_cons_zero, List.set_cons_succ]
      refine wpAnyH_take (i := 34) (oi := ⟨some 137, _, _, _, _, _⟩) (v := undef) rfl (by kernel_rfl) (by kernel_rfl) (by kernel_rfl) (fun _ _ _ h => h) (Or.inr ⟨by rfl, rfl⟩) (by assumption) ?_
      try simp only [Act.put, List.setIfInBounds_toArray, List.set_cons_zero, List.set_cons_succ]
      refine wpAnyH_take (i := 35) (oi := ⟨some 138, _, _, _, _, _⟩) (v := undef) rfl (by kernel_rfl) (by kernel_rfl) (by kernel_rfl) (fun _ _ _ h => h) (Or.inr ⟨by rfl, rfl⟩) (by assumption) ?_
      try simp only [Act.put, List.setIfInBounds_toArray, List.set_cons_zero, List.set_cons_succ]
      refine wpAnyH_take (i := 36) (oi := ⟨some 139, _, _, _, _, _⟩) (v := undef) rfl (by kernel_rfl) (by kernel_rfl) (by kernel_rfl) (fun _ _ _ h => h) (Or.inr ⟨by rfl, rfl⟩) (by assumption) ?_
      try simp only [Act.put, List.setIfInBounds_toArray, List.set_cons_zero, List.set_cons_succ]
      refine wpAnyH_take (i := 37) (oi := ⟨some 140, _, _, _, _, _⟩) (v := undef) rfl (by kernel_rfl) (by kernel_rfl) (by kernel_rfl) (fun _ _ _ h => h) (Or.inr ⟨by rfl, rfl⟩) (by assumption) ?_
      try simp only [Act.put, List.setIfInBounds_toArray, List.set_cons_zero, List.set_cons_succ]
      refine wpAnyH_take (i := 38) (oi := ⟨some 141, _, _, _, _, _⟩) (v := undef) rfl (by kernel_rfl) (by kernel_rfl) (by kernel_rfl) (fun _ _ _ h => h) (Or.inr ⟨by rfl, rfl⟩) (by assumption) ?_
      try simp only [Act.put, List.setIfInBounds_toArray, List.set_cons_zero, List.set_cons_succ]
      refine wpAnyH_take (i := 39) (oi := ⟨some 142, _, _, _, _, _⟩) (v := undef) rfl (by kernel_rfl) (by kernel_rfl) (by kernel_rfl) (fun _ _ _ h => h) (Or.inr ⟨by rfl, rfl⟩) (by assumption) ?_
      try simp only [Act.put, List.setIfInBounds_toArray, List.set_cons_zero, List.set_cons_succ]
      refine wpAnyH_take (i := 40) (oi := ⟨some 143, _, _, _, _, _⟩) (v := undef) rfl (by kernel_rfl) (by kernel_rfl) (by kernel_rfl) (fun _ _ _ h => h) (Or.inr ⟨by rfl, rfl⟩) (by assumption) ?_
      try simp only [Act.put, List.setIfInBounds_toArray, List.set_cons_zero, List.set_cons_succ]
      refine wpAnyH_take (i := 41) (oi := ⟨some 144, _, _, _, _, _⟩) (v := undef) rfl (by kernel_rfl) (by kernel_rfl) (by kernel_rfl) (fun _ _ _ h => h) (Or.inr ⟨by rfl, rfl⟩) (by assumption) ?_
      try simp only [Act.put, List.setIfInBounds_toArray, List.set_cons_zero, List.set_cons_succ]
      refine wpAnyH_take (i := 42) (oi := ⟨some 145, _, _, _, _, _⟩) (v := ?vv43) rfl (by kernel_rfl) (by kernel_rfl) (by kernel_rfl) (fun _ _ _ h => h) (Or.inl ⟨by rfl, ?yv43⟩) (by assumption) ?rv43
      case yv43 => (intro w hSw; (try dsimp only at hSw); go_simp; (try (with_reducible rfl)))
      try simp only [Act.put, List.setIfInBounds_toArray, List.set_cons_zero, List.set_cons_succ]
      refine wpAnyH_take (i := 43) (oi := ⟨some 146, _, _, _, _, _⟩) (v := ?vv44) rfl (by kernel_rfl) (by kernel_rfl) (by kernel_rfl) (fun _ _ _ h => h) (Or.inl ⟨by rfl, ?yv44⟩) (by assumption) ?rv44
      case yv44 => (intro w hSw; (try dsimp only at hSw); go_simp; (try (with_reducible rfl)))
      try simp only [Act.put, List.setIfInBounds_toArray, List.set_cons_zero, List.set_cons_succ]
      refine wpAnyH_take (i := 44) (oi := ⟨some 10, _, _, _, _, _⟩) (v := ?vv45) rfl (by kernel_rfl) (by kernel_rfl) (by kernel_rfl) (fun _ _ _ h => h) (Or.inl ⟨by rfl, ?yv45⟩) (by assumption) ?rv45
      case yv45 => (intro w hSw; (try dsimp only at hSw); go_simp; (try (with_reducible rfl)))
      try simp only [Act.put, List.setIfInBounds_toArray, List.set_cons_zero, List.set_cons_succ]
      refine wpAnyH_done (by kernel_rfl) ?_ _
      clear hHeld
      go_wp2_with fail
      go_ret
      exact ⟨rfl, by rw [HNN.out]; exact HQ1.out.drew⟩
end Go.Proofs.YtfpcdlpfmlaakaaGreatDoor
