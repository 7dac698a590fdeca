/-
  The walks of asrun.absent, first, and of the step of Open.
  Records that are read; the walks of slices.ContainsFunc at the records.
  The walks of the log's small methods: Room, Head, Root.
-/
import Derived.WalkKit
import Derived.LoopTactic
import Derived.WalkSpells
import Derived.WalkLawsBesides
import Derived.RegionTactic
import Derived.BigRegion
import Derived.IntWalk
import Derived.Outline
import Derived.Deep.QuietTactic
import Derived.BigQuiet
import Derived.Deep.RegionLaw
import Derived.Deep.RegionHeld3
import Derived.Lib.Hide
import Derived.Test.YtfpcdlpfmlaakaaGreatDoorAsF
import Derived.Test.YtfpcdlpfmlaakaaGreatDoorDgD
set_option linter.unusedVariables false
set_option linter.unusedSimpArgs false
namespace Go.Proofs.YtfpcdlpfmlaakaaGreatDoor
open Go.RowKit Onair
theorem absent_no (W : World) (B bl b : Nat) (vr ve : Value) (R : List Rec) (br : Bool) (h : LgAt W B bl b vr ve R br) :
    Calls Tryz.prog 36 #[.pointer (some ⟨bl, 0, none⟩)] W fun e w' => e = .returned (.bool false) ∧ W = w' := by
  have c0 := h.blk.cell 0
  simp only [List.getElem?_cons_zero] at c0
  clear h
  go_enter Tryz.func36, Tryz.ntmps36
  go_wp2
  go_ret
  exact ⟨rfl, rfl⟩
theorem absent_nil (W : World) :
    Calls Tryz.prog 36 #[.pointer none] W fun e w' => e = .returned (.bool true) ∧ W = w' := by
  go_enter Tryz.func36, Tryz.ntmps36
  go_wp2
  go_ret
  exact ⟨rfl, rfl⟩
/-- A call of one of the steps that Open and Append hand to first. -/
def StepFn (f : Value) (W : World) (Q : Ending → World → Prop) : Prop :=
  (∃ p q z, f = .func (.func 78) #[] #[p, q, z] ∧ Calls Tryz.prog 78 #[p, q, z] W Q) ∨
  (∃ p, f = .func (.func 48) #[p] #[] ∧ Calls Tryz.prog 48 #[p] W Q) ∨
  (∃ p q, f = .func (.func 47) #[] #[p, q] ∧ Calls Tryz.prog 47 #[p, q] W Q) ∨
  (∃ p q, f = .func (.func 49) #[] #[p, q] ∧ Calls Tryz.prog 49 #[p, q] W Q)
def FirstP (n : Nat) (J : Nat → World → Prop) (Z : Int → World → Prop) (e : Ending) (W' : World) : Prop := ∃ c : Int, e = .returned (.int .i64 c) ∧ ((c = 0 ∧ J n W') ∨ (c ≠ 0 ∧ Z c W'))
set_option maxHeartbeats 2000000 in
set_option maxRecDepth 100000 in
theorem first_any (fs : List Value) (bs n : Nat) (J : Nat → World → Prop) (Z : Int → World → Prop) (w : World) (hn : fs.length = n) (hn4 : n ≤ 4) (hJc : ∀ k W, J k W → ∀ j f, fs[j]? = some f → W.cell? ⟨bs, 0 + j, none⟩ = some f)
    (hst : ∀ k f W, fs[k]? = some f → J k W → StepFn f W (FirstP (k + 1) J Z)) (h0 : J 0 w) :
    Calls Tryz.prog 46 #[.slice (some ⟨bs, 0, none⟩) n n] w (FirstP n J Z) := by
  have HC := Lib.hid hJc
  have HS := Lib.hid hst
  have H0 := Lib.hid h0
  have HN := Lib.hid hn
  clear hJc hst h0 hn
  go_enter Tryz.func46, Tryz.ntmps46
  go_wp2
  go_loopw [8] (fun x wr => ∃ k : Nat, k ≤ n ∧ x = .int .i64 k ∧ Hid (J k wr)) (fun x _ => n - (intOf x).toNat)
  case atStart => exact ⟨0, Nat.zero_le _, rfl, H0⟩
  case round =>
    clear H0
    obtain ⟨k, hk, rfl, HJ⟩ := hrel
    by_cases hkn : k = n
    · have q1 : ¬ (k : Int) < n := by omega
      have HJn : Hid (J n wr) := by rw [← hkn]; exact HJ.out
      clear hkn HJ
      go_wp2
      go_ret
      exact ⟨0, rfl, .inl ⟨rfl, HJn.out⟩⟩
    · have q1 : (k : Int) < n := by omega
      have q2 : k < n := by omega
      obtain ⟨f, hf⟩ : ∃ f, fs[k]? = some f := ⟨_, List.getElem?_eq_getElem (by rw [HN.out]; exact q2)⟩
      have c0 := HC.out k wr HJ.out k f hf
      rw [Nat.zero_add] at c0
      have hsf := HS.out k f wr hf HJ.out
      clear hf hkn
      rcases hsf with ⟨p, q, z, rfl, hc⟩ | ⟨p, rfl, hc⟩ | ⟨p, q, rfl, hc⟩ | ⟨p, q, rfl, hc⟩
      all_goals
        have HCC := Lib.hid hc
        clear hc
        go_wp2_with fail
        refine HCC.out.mono ?_
        rintro e w4 ⟨c, rfl, (⟨rfl, hj⟩ | ⟨hc, hz⟩)⟩
        · have HJ4 := Lib.hid hj
          clear hj c0 HJ HCC
          go_wp2_with fail
          go_roundw
          case rel => exact ⟨k + 1, by omega, by go_num, HJ4⟩
          case measure => simp [intOf]; omega
        · have HZ := Lib.hid hz
          have hcc : (c != 0) = true := by rw [bne_iff_ne]; exact hc
          have HCN : Hid (c ≠ 0) := hc
          clear hz hc c0 HJ HCC
          go_wp2_with fail
          go_ret
          exact ⟨c, rfl, .inr ⟨HCN.out, HZ.out⟩⟩
end Go.Proofs.YtfpcdlpfmlaakaaGreatDoor
namespace Go.Proofs.YtfpcdlpfmlaakaaGreatDoor
open Go.RowKit Onair
/-- The records l may be read at oa. -/
def RdR (W : World) (oa : Option Addr) (l : List Rec) : Prop := l = [] ∨ ∃ b o, oa = some ⟨b, o, none⟩ ∧ b < W.heap.size ∧ ∀ (j : Nat) v, (rcells l)[j]? = some v → W.cell? ⟨b, o + j, none⟩ = some v
theorem RdR.kept {W W' : World} {oa : Option Addr} {l : List Rec} (h : RdR W oa l) (hb : Below W.heap.size W W') : RdR W' oa l := by
  rcases h with rfl | ⟨b, o, e, hlt, hc⟩
  · exact .inl rfl
  · exact .inr ⟨b, o, e, Nat.lt_of_lt_of_le hlt hb.size, fun j v hj => (hb.cell (p := ⟨b, o + j, none⟩) hlt).trans (hc j v hj)⟩
theorem RdR.fr {W W' : World} {oa : Option Addr} {l : List Rec} {S : Nat → Prop} (h : RdR W oa l) (hf : Fr S W W') (hs : ∀ b o, oa = some ⟨b, o, none⟩ → ¬ S b) : RdR W' oa l := by
  rcases h with rfl | ⟨b, o, e, hlt, hc⟩
  · exact .inl rfl
  · exact .inr ⟨b, o, e, Nat.lt_of_lt_of_le hlt hf.size, fun j v hj => (hf.cell ⟨b, o + j, none⟩ hlt (hs b o e)).trans (hc j v hj)⟩
theorem rcells_at (l : List Rec) : ∀ (k : Nat) (r : Rec) (j : Nat), l[k]? = some r → j < 6 → (rcells l)[k * 6 + j]? = (recA r).toList[j]? := by
  induction l with
  | nil => intro k r j h; simp at h
  | cons x l ih =>
    intro k r j h hj
    have e : rcells (x :: l) = (recA x).toList ++ rcells l := rfl
    rw [e]
    cases k with
    | zero =>
      simp only [List.getElem?_cons_zero, Option.some.injEq] at h
      subst h
      rw [Nat.zero_mul, Nat.zero_add, List.getElem?_append_left (by show j < 6; exact hj)]
    | succ k =>
      rw [List.getElem?_append_right (by show 6 ≤ _; omega)]
      rw [show (k + 1) * 6 + j - (recA x).toList.length = k * 6 + j from by show (k + 1) * 6 + j - 6 = _; omega]
      exact ih k r j h hj
/-- The cells of one record. -/
structure RecAt (W : World) (b o : Nat) (r : Rec) : Prop where
  c0 : W.cell? ⟨b, o, none⟩ = some (.int .i64 r.ch)
  c1 : W.cell? ⟨b, o + 1, none⟩ = some (.int .i64 r.rg)
  c2 : W.cell? ⟨b, o + 2, none⟩ = some (.int .i64 r.fr)
  c3 : W.cell? ⟨b, o + 3, none⟩ = some (.int .i64 r.fs)
  c4 : W.cell? ⟨b, o + 4, none⟩ = some (.int .i64 r.it)
  c5 : W.cell? ⟨b, o + 5, none⟩ = some (.int .i64 r.ix)
theorem RdR.at {W : World} {oa : Option Addr} {l : List Rec} (h : RdR W oa l) (k : Nat) (r : Rec) (hk : l[k]? = some r) : ∃ b o, oa = some ⟨b, o, none⟩ ∧ b < W.heap.size ∧ RecAt W b (o + k * 6) r := by
  rcases h with rfl | ⟨b, o, e, hlt, hc⟩
  · simp at hk
  · have g : ∀ j v, j < 6 → (recA r).toList[j]? = some v → W.cell? ⟨b, o + k * 6 + j, none⟩ = some v := fun j v hj hv => by
      rw [Nat.add_assoc]
      exact hc _ v (by rw [rcells_at l k r j hk hj]; exact hv)
    exact ⟨b, o, e, hlt, ⟨g 0 _ (by decide) rfl, g 1 _ (by decide) rfl, g 2 _ (by decide) rfl, g 3 _ (by decide) rfl, g 4 _ (by decide) rfl, g 5 _ (by decide) rfl⟩⟩
theorem allV_iff' (l : List Rec) : allV l = true ↔ ∀ r ∈ l, validR r = true := by unfold allV; rw [List.all_eq_true]
set_option maxRecDepth 100000 in
theorem app1_any (r : Rec) (w : World) (hr : RecI r) :
    Calls Tryz.prog 38 #[.agg (recA r)] w fun e w' => e = .returned (.bool (!validR r)) ∧ Below w.heap.size w w' := by
  have hw : Below w.heap.size w (w.alloc (.cells (recA r) 62)) := (Below.refl _ w).alloc (Nat.le_refl _) _
  have HW := Lib.hid hw
  have HV := Lib.hid (valid_any r (w.alloc (.cells (recA r) 62)) hr)
  generalize validR r = vb at HV ⊢
  clear hw
  dsimp only [recA] at HW HV ⊢
  go_enter Tryz.func38, Tryz.ntmps38
  go_wp2_with fail
  refine HV.out.mono ?_
  rintro e w' ⟨rfl, rfl⟩
  go_wp2_with fail
  go_ret
  exact ⟨rfl, HW.out.alloc HW.out.size _⟩
def IdxP (l : List Rec) (w : World) (e : Ending) (w' : World) : Prop := ∃ i : Int, e = .returned (.int .i64 i) ∧ ((i = -1 ∧ allV l = true) ∨ (0 ≤ i ∧ i ≤ 9223372036854775807 ∧ allV l = false)) ∧ Below w.heap.size w w'
set_option maxHeartbeats 2000000 in
set_option maxRecDepth 100000 in
theorem index_any (l : List Rec) (oa : Option Addr) (n cap : Nat) (w : World) (hn : l.length = n) (hcap : n ≤ cap) (hcm : cap ≤ 9223372036854775807) (hI : ∀ r ∈ l, RecI r) (hr : RdR w oa l) :
    Calls Tryz.prog 83 #[.slice oa n cap, .func (.func 38) #[] #[]] w (IdxP l w) := by
  have HR := Lib.hid hr
  have HI := Lib.hid hI
  have HN := Lib.hid hn
  clear hr hI hn
  go_enter Tryz.func83, Tryz.ntmps83
  go_wp2_with fail
  go_loopw [8] (fun x wr => ∃ k : Nat, k ≤ n ∧ x = .int .i64 k ∧ Hid (allV (l.take k) = true) ∧ Hid (Below w.heap.size w wr)) (fun x _ => n - (intOf x).toNat)
  case atStart => exact ⟨0, Nat.zero_le _, rfl, rfl, Below.refl _ _⟩
  case round =>
    obtain ⟨k, hk, rfl, HV, HB⟩ := hrel
    by_cases hkn : k = n
    · have q1 : ¬ (k : Int) < n := by omega
      have HE : Hid (allV l = true) := by have := HV.out; rw [hkn, ← HN.out, List.take_length] at this; exact this
      clear hkn
      go_wp2_with fail
      go_ret
      exact ⟨-1, rfl, .inl ⟨rfl, HE.out⟩, HB.out⟩
    · have q1 : (k : Int) < n := by omega
      have q2 : k < n := by omega
      obtain ⟨r, hrk⟩ : ∃ r, l[k]? = some r := ⟨_, List.getElem?_eq_getElem (by rw [HN.out]; exact q2)⟩
      obtain ⟨b, o, rfl, hlt, ra⟩ := (HR.out.kept HB.out).at k r hrk
      obtain ⟨c0, c1, c2, c3, c4, c5⟩ := ra
      have HA := Lib.hid (app1_any r wr (HI.out r (List.mem_of_getElem? hrk)))
      have htk : allV (l.take (k + 1)) = validR r := by
        have h1 : l.take (k + 1) = l.take k ++ [r] := by
          have hkl : k < l.length := (List.getElem?_eq_some_iff.1 hrk).1
          rw [List.take_succ_eq_append_getElem hkl]
          rw [List.getElem?_eq_getElem hkl] at hrk
          rw [Option.some.inj hrk]
        have h2 := HV.out
        unfold allV at h2 ⊢
        rw [h1, List.all_append, h2]
        simp
      have hbad : validR r = false → allV l = false := fun h => by
        cases hv : allV l with
        | false => rfl
        | true => rw [(allV_iff' l).1 hv r (List.mem_of_getElem? hrk)] at h; cases h
      have HTK := Lib.hid htk
      have HBD := Lib.hid hbad
      clear hrk htk hbad hkn
      dsimp only [recA] at HA
      cases hvb : validR r with
      | true =>
        rw [hvb] at HA HTK
        have HVB := Lib.hid hvb
        clear hvb
        go_wp2_with fail
        refine HA.out.mono ?_
        rintro e w4 ⟨rfl, hb4⟩
        have HB4 : Hid (Below w.heap.size w w4) := HB.out.trans (hb4.mono HB.out.size)
        clear hb4 c0 c1 c2 c3 c4 c5
        go_wp2_with fail
        go_roundw
        case rel => exact ⟨k + 1, by omega, by go_num, HTK.out, HB4⟩
        case measure => simp [intOf]; omega
      | false =>
        have HBX := Lib.hid (HBD.out hvb)
        rw [hvb] at HA
        clear hvb
        go_wp2_with fail
        refine HA.out.mono ?_
        rintro e w4 ⟨rfl, hb4⟩
        have HB4 : Hid (Below w.heap.size w w4) := HB.out.trans (hb4.mono HB.out.size)
        clear hb4 c0 c1 c2 c3 c4 c5
        go_wp2_with fail
        go_ret
        exact ⟨(k : Int), rfl, .inr ⟨by omega, by omega, HBX.out⟩, HB4.out⟩
set_option maxRecDepth 100000 in
theorem contains_any (l : List Rec) (oa : Option Addr) (n cap : Nat) (w : World) (hn : l.length = n) (hcap : n ≤ cap) (hcm : cap ≤ 9223372036854775807) (hI : ∀ r ∈ l, RecI r) (hr : RdR w oa l) :
    Calls Tryz.prog 37 #[.slice oa n cap, .func (.func 38) #[] #[]] w fun e w' => e = .returned (.bool (!allV l)) ∧ Below w.heap.size w w' := by
  have HI := Lib.hid (index_any l oa n cap w hn hcap hcm hI hr)
  clear hr hI hn
  go_enter Tryz.func37, Tryz.ntmps37
  go_wp2_with fail
  refine HI.out.mono ?_
  rintro e w' ⟨i, rfl, hi, hb⟩
  have HB := Lib.hid hb
  clear hb
  rcases hi with ⟨rfl, hv⟩ | ⟨h0, h1, hv⟩
  · have HV := Lib.hid hv
    clear hv
    go_wp2_with fail
    go_ret
    exact ⟨by rw [HV.out]; rfl, HB.out⟩
  · have HV := Lib.hid hv
    have hd : decide (0 ≤ i) = true := decide_eq_true h0
    clear hv
    go_wp2_with fail
    go_ret
    exact ⟨by rw [HV.out]; rfl, HB.out⟩
end Go.Proofs.YtfpcdlpfmlaakaaGreatDoor
namespace Go.Proofs.YtfpcdlpfmlaakaaGreatDoor
open Go.RowKit Onair
set_option maxRecDepth 100000 in
theorem room_any (W : World) (B B2 b bd bv bl : Nat) (vp vr ve : Value) (D : DS) (R : List Rec) (br : Bool) (hE : endN R ≤ 4611686018427387903) (h : DkAt W B b bd bv vp D) (hl : LgAt W B2 bl b vr ve R br) :
    Calls Tryz.prog 18 #[.pointer (some ⟨bl, 0, none⟩)] W fun e w' => e = .returned (.int .i64 ((D.vis.length : Int) - (endN R : Nat))) ∧ ∃ n, w' = W.drewN n := by
  have hm := h.max
  have c0 := hl.blk.cell 0
  have c4 := hl.blk.cell 4
  simp only [List.getElem?_cons_zero, List.getElem?_cons_succ] at c0 c4
  have H := Lib.hid h
  have HL := Lib.hid hl
  generalize endN R = E at hE c4 ⊢
  have q := IntWalk.i64_in ((D.vis.length : Int) - (E : Int)) (by omega)
  have q2 : wrap64 ((D.vis.length : Int) - (E : Int)) = (D.vis.length : Int) - (E : Int) := (IntWalk.i64_left _).symm.trans q
  clear h hl
  go_enter Tryz.func18, Tryz.ntmps18
  go_wp2_with fail
  refine (absent_no W B2 bl b vr ve R br HL.out).mono ?_
  rintro e w' ⟨rfl, rfl⟩
  go_wp2_with fail
  have HSZ : Hid (∀ W', Below W.heap.size W W' → Calls Tryz.prog 59 #[.pointer (some ⟨b, 0, none⟩)] W' fun e w' => e = .returned (.int .i64 (D.vis.length : Int)) ∧ W' = w') := fun W' hW => size_any W' B b bd bv vp D (H.out.kept (fun k hk => hW.block k (H.out.lt k hk)))
  go_region_held3 (fun W => W.cell? ⟨bl, 0, none⟩ = some (.pointer (some ⟨b, 0, none⟩)) ∧ W.cell? ⟨bl, 4, none⟩ = some (.int .i64 (E : Int))) (go_keep) (((with_reducible refine (HSZ.out _ (by first | exact (Below.refl _ _).drew | exact Below.refl _ _)).mono ?_); rintro e w' ⟨rfl, rfl⟩))
  all_goals (go_wp2_with fail; go_ret; exact ⟨rfl, _, rfl⟩)
theorem head_any (W : World) (B2 b bl : Nat) (vr ve : Value) (R : List Rec) (br : Bool) (hl : LgAt W B2 bl b vr ve R br) :
    Calls Tryz.prog 24 #[.pointer (some ⟨bl, 0, none⟩)] W fun e w' => e = .returned (.string (headR R)) ∧ W = w' := by
  have c3 := hl.blk.cell 3
  simp only [List.getElem?_cons_zero, List.getElem?_cons_succ] at c3
  have HL := Lib.hid hl
  clear hl
  go_enter Tryz.func24, Tryz.ntmps24
  go_wp2_with fail
  refine (absent_no W B2 bl b vr ve R br HL.out).mono ?_
  rintro e w' ⟨rfl, rfl⟩
  go_wp2_with fail
  go_ret
  exact ⟨rfl, rfl⟩
theorem entB_size (h e : ByteArray) : (entB h e).size = 32 + e.size := by
  unfold entB
  simp [shaB_size]
theorem entF_sz : ∀ (l : List Rec) (h : ByteArray), SzB 86 (entF h l)
  | [], h => fun x hx => by simp [entF] at hx
  | r :: l, h => fun x hx => by
    rcases List.mem_cons.1 hx with rfl | hx
    · rw [entB_size]
      have := encB_size r
      omega
    · exact entF_sz l _ x hx
theorem LgAt.ents_rd {W : World} {B bl b : Nat} {oa : Option Addr} {n cap : Nat} {vr : Value} {R : List Rec} {br : Bool} (h : LgAt W B bl b vr (.slice oa n cap) R br) : n = R.length ∧ n ≤ cap ∧ cap ≤ 9223372036854775807 ∧ RdS W oa (entR R) := by
  have he := h.ents
  obtain ⟨oa', cap', e⟩ := own_slice he
  cases e
  have := own_rds he
  exact ⟨entR_len R, this.2.1, this.2.2.1, this.2.2.2⟩
set_option maxRecDepth 100000 in
theorem logRoot_any (W : World) (B2 b bl : Nat) (vr ve : Value) (R : List Rec) (br : Bool) (hn : R.length ≤ 900000) (ht : TabAt W) (hl : LgAt W B2 bl b vr ve R br) :
    Calls Tryz.prog 28 #[.pointer (some ⟨bl, 0, none⟩)] W fun e w' => e = .returned (.string (rootL (entR R))) ∧ Below W.heap.size W w' := by
  have c2 := hl.blk.cell 2
  simp only [List.getElem?_cons_zero, List.getElem?_cons_succ] at c2
  obtain ⟨oa, cap, rfl⟩ := own_slice hl.ents
  obtain ⟨h1, h2, h3, h4⟩ := hl.ents_rd
  have HC := Lib.hid (root_any (entR R).length (entR R) oa (entR R).length cap W (Nat.le_refl _) rfl h2 h3 (by rw [entR_len]; omega) (fun x hx => Nat.le_trans (entF_sz R zero32 x hx) (by decide)) h4 ht)
  have HL := Lib.hid hl
  generalize (entR R).length = m at HC c2 HL ⊢
  clear hl ht h1 h2 h3 h4
  go_enter Tryz.func28, Tryz.ntmps28
  go_wp2_with fail
  refine (absent_no W B2 bl b vr _ R br HL.out).mono ?_
  rintro e w' ⟨rfl, rfl⟩
  go_wp2_with fail
  refine HC.out.mono ?_
  rintro e w' ⟨rfl, hb⟩
  have HB := Lib.hid hb
  clear hb
  go_wp2_with fail
  go_ret
  exact ⟨rfl, HB.out⟩
end Go.Proofs.YtfpcdlpfmlaakaaGreatDoor
