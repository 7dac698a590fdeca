/-
  The walk of the disk's method Crash.
  The fixed examples of the disk's laws: sane returns true.
  The log of package asrun in plain words: what Open and Append do to a disk.
  Plain laws of the log: appending to a clean log, losing the power, opening again.
-/
import Derived.WalkKit
import Derived.LoopTactic
import Derived.WalkSpells
import Derived.WalkLawsBesides
import Derived.RegionTactic
import Derived.BigRegion
import Derived.IntWalk
import Derived.Laws.MakeOwn
import Derived.Test.YtfpcdlpfmlaakaaGreatDoorDkA
import Derived.Test.YtfpcdlpfmlaakaaGreatDoorPlA
set_option linter.unusedVariables false
set_option linter.unusedSimpArgs false
namespace Go.Proofs.YtfpcdlpfmlaakaaGreatDoor
open Go.RowKit
theorem Tryz.infoBool : (Tryz.prog.info? 4).map (fun i => (i.zero, i.size, i.bytes)) = some (some (.bool false), 1, 1) := by kernel_rfl
/-- The cells of 'survives'. -/
def bcells (l : List Bool) : List Value := l.map Value.bool
def bzero (n : Nat) : Array Value := (bcells (List.replicate n false)).toArray
theorem made_false (n : Nat) : madeCells (Value.bool false).cells (n * 1) = bzero n := by
  apply Array.ext
  · simp [madeCells, bzero, bcells]
  · intro i h1 h2
    simp [madeCells, bzero, bcells, Value.cells, Nat.mod_one]
theorem run_make_bools (n : Nat) (hn : n ≤ 16777216) (W : World) : (Instr.makeSlice 141 (.int .i64 (n : Int)) (.int .i64 (n : Int))).run Tryz.prog W = .ok (.slice (some ⟨W.heap.size, 0, none⟩) n n) (W.alloc (.cells (bzero n) 4)) := by
  obtain ⟨i0, hi, hz0, hz1, hz2⟩ := info_parts Tryz.infoBool
  have hr := run_make (P := Tryz.prog) W 141 4 i0 (.bool false) Tryz.underlying141 hi hz0 .i64 .i64 n n (by omega) (Int.le_refl _) (by rw [hz2]; omega) (by omega)
  rw [Int.toNat_natCast, hz1, made_false] at hr
  exact hr
/-- Which of n writes survive, and the last survivor, by the first j numbers of keep. -/
def survL (ks : Nat → Int) (n : Nat) : Nat → List Bool
  | 0 => List.replicate n false
  | j + 1 => if 0 ≤ ks j ∧ ks j < n then (survL ks n j).set (ks j).toNat true else survL ks n j
def lastK (ks : Nat → Int) (n : Nat) : Nat → Int
  | 0 => -1
  | j + 1 => if 0 ≤ ks j ∧ ks j < n then max (lastK ks n j) (ks j) else lastK ks n j
theorem survL_len (ks : Nat → Int) (n j : Nat) : (survL ks n j).length = n := by
  induction j with
  | zero => simp [survL]
  | succ j ih =>
    unfold survL
    split
    · rw [List.length_set, ih]
    · exact ih
theorem bcells_set (l : List Bool) (i : Nat) (b : Bool) : bcells (l.set i b) = (bcells l).set i (.bool b) := by simp [bcells, List.map_set]
theorem bcells_get (l : List Bool) (i : Nat) (h : i < l.length) : (bcells l)[i]? = some (.bool (l[i]?.getD false)) := by simp [bcells, List.getElem?_eq_getElem h]
theorem lastK_bd (ks : Nat → Int) (n j : Nat) : -1 ≤ lastK ks n j ∧ (lastK ks n j < n ∨ lastK ks n j = -1) := by
  induction j with
  | zero => exact ⟨by simp [lastK], .inr rfl⟩
  | succ j ih =>
    unfold lastK
    split
    · omega
    · exact ih
/-- What of write i goes over. -/
def cutW (last torn : Int) (i : Nat) (s : ByteArray) : ByteArray := if (i : Int) = last ∧ 0 ≤ torn ∧ torn < s.size then s.extract 0 torn.toNat else s
theorem cutW_size (last torn : Int) (i : Nat) (s : ByteArray) : (cutW last torn i s).size ≤ s.size := by
  unfold cutW; split
  · simp; omega
  · exact Nat.le_refl _
/-- The durable content after the first j pending writes. -/
def crashL (sv : List Bool) (last torn : Int) (pend : List (Nat × ByteArray)) (dur : List UInt8) : Nat → List UInt8
  | 0 => dur
  | j + 1 => if sv[j]?.getD false then splice (crashL sv last torn pend dur j) (pend[j]?.getD (0, ⟨#[]⟩)).1 (cutW last torn j (pend[j]?.getD (0, ⟨#[]⟩)).2).data.toList else crashL sv last torn pend dur j
theorem crashL_len (sv : List Bool) (last torn : Int) (pend : List (Nat × ByteArray)) (dur : List UInt8) (hp : ∀ p ∈ pend, p.1 + p.2.size ≤ dur.length) (j : Nat) (hj : j ≤ pend.length) : (crashL sv last torn pend dur j).length = dur.length := by
  induction j with
  | zero => rfl
  | succ j ih =>
    have ih := ih (by omega)
    unfold crashL
    split
    · have hm := hp _ (List.getElem_mem (show j < pend.length by omega))
      have hc := cutW_size last torn j pend[j].2
      rw [List.getElem?_eq_getElem (by omega), Option.getD_some, splice_len _ _ _ (by rw [ih, blen]; omega), ih]
    · exact ih
def crashD (D : DS) (ks : Nat → Int) (len : Nat) (torn : Int) : DS :=
  let r := crashL (survL ks D.pend.length len) (lastK ks D.pend.length len) torn D.pend D.dur D.pend.length
  { lost := false, cut := 0, dur := r, vis := r, pend := [] }
theorem pcell_at (l : List (Nat × ByteArray)) (i o : Nat) (s : ByteArray) (h : l[i]? = some (o, s)) : (pcells l)[i * 2]? = some (.int .i64 (o : Int)) ∧ (pcells l)[i * 2 + 1]? = some (.string s) := by
  induction l generalizing i with
  | nil => simp at h
  | cons p l ih =>
    cases i with
    | zero =>
      simp at h
      subst h
      exact ⟨rfl, rfl⟩
    | succ i =>
      have := ih i (by simpa using h)
      rw [show (i + 1) * 2 = i * 2 + 1 + 1 by omega]
      exact this
/-- A slice of integers that a call may read. -/
def IntsAt (W : World) (oa : Option Addr) (len : Nat) (ks : Nat → Int) (S : Nat → Prop) : Prop := len = 0 ∨ ∃ g off, oa = some ⟨g, off, none⟩ ∧ g < W.heap.size ∧ ¬ S g ∧ ∀ i, i < len → W.cell? ⟨g, off + i, none⟩ = some (.int .i64 (ks i))
set_option maxHeartbeats 2000000 in
set_option maxRecDepth 100000 in
theorem crash_walk (W : World) (B b bd bv : Nat) (vp : Value) (D : DS) (oa : Option Addr) (len cap : Nat) (ks : Nat → Int) (torn : Int) (hB : B ≤ W.heap.size) (hlc : len ≤ maxLen) (hpl : D.pend.length ≤ 1000000) (hpk : ∀ p ∈ D.pend, p.1 + p.2.size ≤ D.vis.length)
    (hks : ∀ i, -9223372036854775808 ≤ ks i ∧ ks i ≤ 9223372036854775807) (ht0 : -9223372036854775808 ≤ torn) (ht1 : torn ≤ 9223372036854775807) (hsz : ∀ p ∈ D.pend, p.2.size ≤ maxLen) (hk : IntsAt W oa len ks (Foot b bd bv vp)) (h : DkAt W B b bd bv vp D) :
    Calls Tryz.prog 64 #[.pointer (some ⟨b, 0, none⟩), .slice oa len cap, .int .i64 torn] W fun e w' => e = .returned (.int .i64 0) ∧ ∃ vp', DkAt w' B b bd bv vp' (crashD D ks len torn) ∧ vp'.ownBlock = vp.ownBlock ∧ Fr (Foot b bd bv vp) W w' := by
  unfold maxLen at hlc
  have hm := h.max
  have hne : (stE D == 1) = false := by unfold stE; split <;> rfl
  have c4 := h.blk.cell 4
  simp only [List.getElem?_cons_zero, List.getElem?_cons_succ] at c4
  obtain ⟨n, hn⟩ : ∃ n, D.pend.length = n := ⟨_, rfl⟩
  obtain ⟨ov, cv, rfl⟩ : ∃ oa cap, vp = .slice oa n cap := by
    rcases h.own.2 with ⟨rfl, h0⟩ | ⟨g, cap, _, rfl, _⟩
    · exact ⟨none, 0, by rw [← hn, h0]⟩
    · exact ⟨_, cap, by rw [← hn]⟩
  have hmk := run_make_bools n (by omega)
  have HN := Lib.hid hn
  have HPK := Lib.hid hpk
  have HSZ := Lib.hid hsz
  have HKS := Lib.hid hks
  have HK := Lib.hid hk
  have H := Lib.hid h
  have hn1 : n ≤ 1000000 := by omega
  have hbs : Blk (W.alloc (.cells (bzero n) 4)) W.heap.size 4 (bcells (survL ks n 0)) := by
    exact Blk.new W _ _
  have HBS := Lib.hid hbs
  have hf0 : Fr (fun _ => False) W (W.alloc (.cells (bzero n) 4)) := (Fr.refl _ W).alloc _
  have HF0 := Lib.hid hf0
  have hlt0 : W.heap.size < (W.alloc (.cells (bzero n) 4)).heap.size := by simp
  have HLT := Lib.hid hlt0
  clear hn hpk hsz hks hk h hbs hf0 hpl hlt0
  go_enter Tryz.func64, Tryz.ntmps64
  go_wp2_with fail
  refine (state_any W B b bd bv _ D H.out).mono ?_
  rintro e w' ⟨rfl, rfl⟩
  go_wp2_with fail
  clear hmk
  obtain ⟨bs, hbs⟩ : ∃ bs, W.heap.size = bs := ⟨_, rfl⟩
  rw [hbs] at HBS HLT ⊢
  have HBSZ := Lib.hid hbs
  clear hbs
  go_loopw [8, 25] (fun l i wr => ∃ j : Nat, j ≤ len ∧ i = .int .i64 j ∧ l = .int .i64 (lastK ks n j) ∧ Hid (Blk wr bs 4 (bcells (survL ks n j))) ∧ Hid (Fr (fun _ => False) W wr) ∧ bs < wr.heap.size) (fun _ i _ => len - (intOf i).toNat)
  case atStart => exact ⟨0, Nat.zero_le _, rfl, rfl, HBS, HF0, HLT.out⟩
  case round =>
    obtain ⟨j, hj, rfl, rfl, HBr, HFr, hbr⟩ := hrel
    clear HBS HF0 HLT
    have hsl := survL_len ks n j
    have hlk := lastK_bd ks n j
    by_cases hjl : j = len
    · subst hjl
      have hjj : ¬ (j : Int) < j := by omega
      have hD0 : DkAt wr B b bd bv (.slice ov n cv) D := H.out.fr HFr.out (fun _ _ e => e)
      have c4r := hD0.blk.cell 4
      simp only [List.getElem?_cons_zero, List.getElem?_cons_succ] at c4r
      have HD0 := Lib.hid hD0
      have HF0 : Hid (Fr (Foot b bd bv (.slice ov n cv)) W wr) := HFr.out.mono (fun _ e => e.elim)
      obtain ⟨sv, hsv⟩ : ∃ sv, survL ks n j = sv := ⟨_, rfl⟩
      obtain ⟨L, hL⟩ : ∃ L, lastK ks n j = L := ⟨_, rfl⟩
      rw [hsv] at HBr hsl
      rw [hL] at hlk ⊢
      have HSV := Lib.hid hsv
      have HL := Lib.hid hL
      have HSL := Lib.hid hsl
      clear hD0 hsv hL HFr hsl
      go_wp2_with fail
      obtain ⟨wo, hwo⟩ : ∃ wo : World, wo = wr := ⟨_, rfl⟩
      rw [← hwo] at HBr HD0 HF0 hbr ⊢
      clear hwo c4r
      go_loopw [49] (fun i wr => ∃ i' : Nat, i' ≤ n ∧ i = .int .i64 i' ∧ Hid (DkAt wr B b bd bv (.slice ov n cv) { D with dur := crashL sv L torn D.pend D.dur i' }) ∧ Hid (Blk wr bs 4 (bcells sv)) ∧ Hid (Fr (Foot b bd bv (.slice ov n cv)) W wr) ∧ bs < wr.heap.size) (fun i _ => n - (intOf i).toNat)
      case atStart => exact ⟨0, Nat.zero_le _, rfl, HD0, HBr, HF0, hbr⟩
      case round =>
        obtain ⟨i, hi, rfl, HDq, HBq, HFq, hbq⟩ := hrel
        clear HD0 HBr HF0 hbr
        by_cases hin : i = n
        · subst hin
          have hii : ¬ (i : Int) < i := by omega
          have hlen := crashL_len sv L torn D.pend D.dur (fun p hp => by rw [H.out.len]; exact HPK.out p hp) i (by rw [HN.out]; exact Nat.le_refl _)
          rw [H.out.len] at hlen
          have c1 := HDq.out.blk.cell 2
          have c2 := HDq.out.blk.cell 3
          simp only [List.getElem?_cons_zero, List.getElem?_cons_succ] at c1 c2
          obtain ⟨r, hr⟩ : ∃ r, crashL sv L torn D.pend D.dur i = r := ⟨_, rfl⟩
          rw [hr] at HDq hlen
          have HR := Lib.hid hr
          have hcp := run_copy_blk HDq.out.vis.drew HDq.out.dur.drew hlen.symm
          rw [show ({ D with dur := r } : DS).dur.length = D.vis.length from hlen] at hcp
          have HD2 := Lib.hid (HDq.out.drew.setVis r hlen)
          have HF2 : Hid (Fr (Foot b bd bv (.slice ov i cv)) W (wr.drew.setRow bv (cellsB r).toArray)) := HFq.out.drew.setRow bv _ (.inl (.inr (.inr (.inl rfl))))
          clear hr hlen HDq HBq HFq hbq
          go_wp2_with fail
          go_region
          go_wp2_with fail
          refine (settle_any _ B b bd bv _ _ HD2.out).mono ?_
          rintro e w' ⟨⟨v, rfl⟩, vp', hd', ho', hf'⟩
          have HD3 := Lib.hid hd'
          have HF3 := Lib.hid (HF2.out.trans hf' (fun _ _ h => h))
          have HO3 := Lib.hid ho'
          clear hd' hf' ho'
          go_wp2_with fail
          refine (restore_any _ B b bd bv vp' _ HD3.out).mono ?_
          rintro e w'' ⟨⟨v, rfl⟩, rfl⟩
          go_wp2_with fail
          go_ret
          refine ⟨rfl, vp', ?_, HO3.out, HF3.out.trans (Fr.power _ _ _ _) (fun _ _ h => .inl h)⟩
          have h := HD3.out.power false 0
          have e : crashD D ks j torn = { D with lost := false, cut := 0, dur := r, vis := r, pend := [] } := by
            unfold crashD
            simp only [HN.out, HSV.out, HL.out, HR.out]
          rw [e]
          exact h
        · have hin' : (i : Int) < n := by omega
          obtain ⟨o, s, hos⟩ : ∃ o s, D.pend[i]? = some (o, s) := by
            have : i < D.pend.length := by rw [HN.out]; omega
            exact ⟨_, _, List.getElem?_eq_getElem this⟩
          have hmem : (o, s) ∈ D.pend := List.mem_of_getElem? hos
          have hfit : o + s.size ≤ D.vis.length := HPK.out _ hmem
          have hss : s.size ≤ maxLen := HSZ.out _ hmem
          unfold maxLen at hss
          obtain ⟨gp, rfl, hgp1, hgp2, hgp3⟩ : ∃ gp, ov = some ⟨gp, 0, none⟩ ∧ wr.cell? ⟨gp, i * 2, none⟩ = some (.int .i64 (o : Int)) ∧ wr.cell? ⟨gp, i * 2 + 1, none⟩ = some (.string s) ∧ n ≤ cv := by
            have ho := HDq.out.own
            rcases ho.2 with ⟨e, h0⟩ | ⟨g, cap, cur, e, q1, q2, q3, q4, q5, q6⟩
            · have : D.pend.length = 0 := h0
              rw [HN.out] at this
              omega
            · obtain ⟨e1, e2, e3⟩ := Value.slice.inj e
              subst e1
              subst e3
              have hc := pcell_at D.pend i o s hos
              have hl : D.pend.length = n := HN.out
              have ho' : wr.ownsRow B 113 2 (.slice (some ⟨g, 0, none⟩) D.pend.length cv) D.pend.length (pcells D.pend) := by rw [hl] at ho ⊢; exact ho
              refine ⟨g, rfl, ?_, ?_, by omega⟩
              · rw [ho'.cellAt (i * 2) (by omega)]; exact hc.1
              · rw [ho'.cellAt (i * 2 + 1) (by omega)]; exact hc.2
          have hcs := HBq.out.cell i
          rw [bcells_get _ i (by rw [HSL.out]; omega)] at hcs
          obtain ⟨sb, hsb⟩ : ∃ sb, sv[i]?.getD false = sb := ⟨_, rfl⟩
          rw [hsb] at hcs
          have hcl : crashL sv L torn D.pend D.dur (i + 1) = if sb then splice (crashL sv L torn D.pend D.dur i) o (cutW L torn i s).data.toList else crashL sv L torn D.pend D.dur i := by
            rw [crashL, hos, hsb]; rfl
          clear hos hmem hsb
          cases sb
          · have HDn : Hid (DkAt (wr.alloc (.cells #[.int .i64 (o : Int), .string s] 113)) B b bd bv (.slice (some ⟨gp, 0, none⟩) n cv) { D with dur := crashL sv L torn D.pend D.dur (i + 1) }) := by
              show DkAt _ _ _ _ _ _ _
              rw [hcl]
              exact HDq.out.fr ((Fr.refl (fun _ => False) wr).alloc _) (fun _ _ e => e)
            have HBn : Hid (Blk (wr.alloc (.cells #[.int .i64 (o : Int), .string s] 113)) bs 4 (bcells sv)) := HBq.out.alloc _
            have HFn : Hid (Fr (Foot b bd bv (.slice (some ⟨gp, 0, none⟩) n cv)) W (wr.alloc (.cells #[.int .i64 (o : Int), .string s] 113))) := HFq.out.alloc _
            clear hcl
            go_wp2_with fail
            go_roundw
            case rel => exact ⟨i + 1, by omega, by go_num, HDn, HBn, HFn, by simp; omega⟩
            case measure => simp [intOf]; omega
          · obtain ⟨T, hT⟩ : ∃ T, cutW L torn i s = T := ⟨_, rfl⟩
            rw [hT, if_pos rfl] at hcl
            have hTs : T.size ≤ s.size := by rw [← hT]; exact cutW_size _ _ _ _
            have hlen := crashL_len sv L torn D.pend D.dur (fun p hp => by rw [H.out.len]; exact HPK.out p hp) i (by rw [HN.out]; omega)
            rw [H.out.len] at hlen
            -- the world in which the bytes go over, and after it
            obtain ⟨wa, hwa⟩ : ∃ wa, wr.alloc (.cells #[.int .i64 (o : Int), .string s] 113) = wa := ⟨_, rfl⟩
            have hDa : DkAt wa B b bd bv (.slice (some ⟨gp, 0, none⟩) n cv) { D with dur := crashL sv L torn D.pend D.dur i } := by
              rw [← hwa]; exact HDq.out.fr ((Fr.refl (fun _ => False) wr).alloc _) (fun _ _ e => e)
            have HBa : Hid (Blk wa bs 4 (bcells sv)) := by rw [← hwa]; exact HBq.out.alloc _
            have HFa : Hid (Fr (Foot b bd bv (.slice (some ⟨gp, 0, none⟩) n cv)) W wa) := by rw [← hwa]; exact HFq.out.alloc _
            have hba : bs < wa.heap.size := by rw [← hwa]; simp; omega
            have hc0 : wa.cell? ⟨wr.heap.size, 0, none⟩ = some (.int .i64 (o : Int)) := by
              have := (Blk.new wr 113 [.int .i64 (o : Int), .string s]).cell 0
              rw [hwa] at this
              exact this
            have hc1 : wa.cell? ⟨wr.heap.size, 1, none⟩ = some (.string s) := by
              have := (Blk.new wr 113 [.int .i64 (o : Int), .string s]).cell 1
              rw [hwa] at this
              exact this
            have hca2 := hDa.blk.cell 2
            simp only [List.getElem?_cons_zero, List.getElem?_cons_succ] at hca2
            have hcsa : wa.cell? ⟨bs, i, none⟩ = some (.bool true) := by
              have := HBa.out.cell i
              rw [bcells_get _ i (by rw [HSL.out]; omega)] at this
              rw [this]
              have h2 := HBq.out.cell i
              rw [bcells_get _ i (by rw [HSL.out]; omega), hcs] at h2
              exact h2.symm
            have hnb : bs ≠ b ∧ bs ≠ bd ∧ bs ≠ bv := by
              have q1 := H.out.blk.lt
              have q2 := H.out.dur.lt
              have q3 := H.out.vis.lt
              have q4 := HBSZ.out
              omega
            have HDa := Lib.hid hDa
            have hrest : ∃ wz, (∀ ty, (Builtin.copy_ #[42, 9] ty #[if o = D.vis.length then .slice (some ⟨bd, 0, none⟩) 0 0 else .slice (some ⟨bd, o, none⟩) (D.vis.length - o) (D.vis.length - o), .string T]).run Tryz.prog wa.drew = .ok (goInt T.size) wz) ∧ Hid (DkAt wz B b bd bv (.slice (some ⟨gp, 0, none⟩) n cv) { D with dur := crashL sv L torn D.pend D.dur (i + 1) }) ∧ Hid (Blk wz bs 4 (bcells sv)) ∧ Hid (Fr (Foot b bd bv (.slice (some ⟨gp, 0, none⟩) n cv)) W wz) ∧ bs < wz.heap.size := by
              by_cases ho : o = D.vis.length
              · have hT0 : T.size = 0 := by omega
                refine ⟨wa.drew, fun ty => ?_, ?_, HBa.out.drew, HFa.out.drew, hba⟩
                · rw [if_pos ho, Lib.run_copy_empty_string (P := Tryz.prog) wa.drew 42 9 ty 5 _ _ _ T Tryz.underlying42 (by rw [sizeU8]; rfl) hT0, hT0]; rfl
                · show DkAt _ _ _ _ _ _ _
                  rw [hcl, List.eq_nil_of_length_eq_zero (show T.data.toList.length = 0 by rw [blen]; exact hT0), splice_nil]
                  exact HDa.out.drew
              · refine ⟨wa.drew.setRow bd (cellsB (splice (crashL sv L torn D.pend D.dur i) o T.data.toList)).toArray, fun ty => ?_, ?_, ?_, ?_, ?_⟩
                · rw [if_neg ho]
                  exact run_copy_str HDa.out.drew.dur o _ _ T (by omega) (by rw [hlen]; omega) ty
                · show DkAt _ _ _ _ _ _ _
                  rw [hcl]
                  exact HDa.out.drew.setDur _ (by rw [splice_len _ _ _ (by rw [hlen, blen]; omega)]; exact hlen)
                · exact HBa.out.drew.kept (heap_setRow_other _ _ _ _ hnb.2.1)
                · exact HFa.out.drew.setRow bd _ (.inl (.inr (.inl rfl)))
                · rw [size_setRow]; exact hba
            obtain ⟨wz, hcp, HDn, HBn, HFn, hbn⟩ := hrest
            have HT := Lib.hid hT
            clear hcl hT hDa HDa HBa HFa hba hnb HDq HBq HFq hlen hbq hcs hTs
            by_cases ho : o = D.vis.length
            · simp only [if_pos ho] at hcp
              subst ho
              by_cases hcond : (i : Int) = L ∧ 0 ≤ torn ∧ torn < s.size
              · exfalso
                omega
              · have hTx : s = T := by rw [← HT.out]; unfold cutW; rw [if_neg hcond]
                subst hTx
                by_cases h1 : (i : Int) = L
                · have hil : ((i : Int) == L) = true := by rw [beq_iff_eq]; exact h1
                  by_cases h2 : 0 ≤ torn
                  · have h3 : ¬ torn < s.size := fun h => hcond ⟨h1, h2, h⟩
                    clear hcond h1
                    go_wp2_with fail
                    go_region
                    go_wp2_with fail
                    go_roundw
                    case rel => exact ⟨i + 1, by omega, by go_num, HDn, HBn, HFn, hbn⟩
                    case measure => simp [intOf]; omega
                  · clear hcond h1
                    go_wp2_with fail
                    go_region
                    go_wp2_with fail
                    go_roundw
                    case rel => exact ⟨i + 1, by omega, by go_num, HDn, HBn, HFn, hbn⟩
                    case measure => simp [intOf]; omega
                · have hil : ((i : Int) == L) = false := by rw [beq_eq_false_iff_ne]; exact h1
                  clear hcond h1
                  go_wp2_with fail
                  go_region
                  go_wp2_with fail
                  go_roundw
                  case rel => exact ⟨i + 1, by omega, by go_num, HDn, HBn, HFn, hbn⟩
                  case measure => simp [intOf]; omega
            · simp only [if_neg ho] at hcp
              have hol : (o : Int) < D.vis.length := by omega
              clear ho
              by_cases hcond : (i : Int) = L ∧ 0 ≤ torn ∧ torn < s.size
              · obtain ⟨h1, h2, h3⟩ := hcond
                have hTx : s.extract 0 torn.toNat = T := by rw [← HT.out]; unfold cutW; rw [if_pos ⟨h1, h2, h3⟩]
                have hil : ((i : Int) == L) = true := by rw [beq_iff_eq]; exact h1
                obtain ⟨tt, rfl⟩ : ∃ tt : Nat, torn = tt := ⟨torn.toNat, by omega⟩
                rw [Int.toNat_natCast] at hTx
                clear h1
                go_wp2_with fail
                go_region
                go_wp2_with fail
                go_roundw
                case rel => exact ⟨i + 1, by omega, by go_num, HDn, HBn, HFn, hbn⟩
                case measure => simp [intOf]; omega
              · have hTx : s = T := by rw [← HT.out]; unfold cutW; rw [if_neg hcond]
                subst hTx
                by_cases h1 : (i : Int) = L
                · have hil : ((i : Int) == L) = true := by rw [beq_iff_eq]; exact h1
                  by_cases h2 : 0 ≤ torn
                  · have h3 : ¬ torn < s.size := fun h => hcond ⟨h1, h2, h⟩
                    clear hcond h1
                    go_wp2_with fail
                    go_region
                    go_wp2_with fail
                    go_roundw
                    case rel => exact ⟨i + 1, by omega, by go_num, HDn, HBn, HFn, hbn⟩
                    case measure => simp [intOf]; omega
                  · clear hcond h1
                    go_wp2_with fail
                    go_region
                    go_wp2_with fail
                    go_roundw
                    case rel => exact ⟨i + 1, by omega, by go_num, HDn, HBn, HFn, hbn⟩
                    case measure => simp [intOf]; omega
                · have hil : ((i : Int) == L) = false := by rw [beq_eq_false_iff_ne]; exact h1
                  clear hcond h1
                  go_wp2_with fail
                  go_region
                  go_wp2_with fail
                  go_roundw
                  case rel => exact ⟨i + 1, by omega, by go_num, HDn, HBn, HFn, hbn⟩
                  case measure => simp [intOf]; omega
    · have hjl' : (j : Int) < len := by omega
      obtain ⟨g, og, rfl, hg1, hg2, hg3⟩ : ∃ g off, oa = some ⟨g, off, none⟩ ∧ g < W.heap.size ∧ ¬ Foot b bd bv (.slice ov n cv) g ∧ ∀ i, i < len → W.cell? ⟨g, off + i, none⟩ = some (.int .i64 (ks i)) := by
        rcases HK.out with h0 | h0
        · omega
        · exact h0
      have hck : wr.cell? ⟨g, og + j, none⟩ = some (.int .i64 (ks j)) := (World.cell?_of_block (w := W) (HFr.out.block g hg1 (fun e => e))).trans (hg3 j (by omega))
      obtain ⟨hk1, hk2⟩ := HKS.out j
      obtain ⟨lk, hlk2⟩ : ∃ lk, lastK ks n j = lk := ⟨_, rfl⟩
      by_cases hin : 0 ≤ ks j ∧ ks j < n
      · obtain ⟨q, hq⟩ : ∃ q : Nat, ks j = (q : Int) := ⟨(ks j).toNat, by omega⟩
        have e1 : survL ks n (j + 1) = (survL ks n j).set q true := by rw [survL, if_pos hin, hq, Int.toNat_natCast]
        have e2 : lastK ks n (j + 1) = max lk (q : Int) := by rw [lastK, if_pos hin, hq, hlk2]
        rw [hlk2] at hlk ⊢
        rw [hq] at hck hin
        obtain ⟨hi1, hi2⟩ := hin
        have hcs := HBr.out.cell q
        rw [bcells_get _ q (by omega)] at hcs
        have hfs := HBr.out.frozen q
        have HB2 : Hid (Blk (wr.setCell ⟨bs, q, none⟩ (.bool true)) bs 4 (bcells (survL ks n (j + 1)))) := by
          show Blk _ _ _ _
          rw [e1, bcells_set]
          exact HBr.out.set q _
        have HF2 : Hid (Fr (fun _ => False) W (wr.setCell ⟨bs, q, none⟩ (.bool true))) := HFr.out.setCell ⟨bs, q, none⟩ _ (.inr (by show W.heap.size ≤ bs; rw [HBSZ.out]; exact Nat.le_refl _))
        have hmax : (if (lk : Int) < (q : Int) then (q : Int) else lk) = max lk q := by split <;> omega
        have E2 := Lib.hid e2
        clear e1 e2 hq hlk2 hg3 hsl
        go_wp2_with fail
        go_roundw
        case rel => exact ⟨j + 1, by omega, by go_num, by rw [E2.out], HB2, HF2, by simpa [World.setCell] using hbr⟩
        case measure => simp [intOf]; omega
      · have e1 : survL ks n (j + 1) = survL ks n j := by rw [survL, if_neg hin]
        have e2 : lastK ks n (j + 1) = lastK ks n j := by rw [lastK, if_neg hin]
        rw [hlk2] at e2
        rw [← e1] at HBr
        rw [hlk2]
        have E2 := Lib.hid e2
        clear e1 e2 hlk2 hg3 hsl
        by_cases h0 : 0 ≤ ks j
        · have h1 : ¬ ks j < n := by omega
          clear hin
          go_wp2_with fail
          go_roundw
          case rel => exact ⟨j + 1, by omega, by go_num, by rw [E2.out], HBr, HFr, hbr⟩
          case measure => simp [intOf]; omega
        · clear hin
          go_wp2_with fail
          go_roundw
          case rel => exact ⟨j + 1, by omega, by go_num, by rw [E2.out], HBr, HFr, hbr⟩
          case measure => simp [intOf]; omega
end Go.Proofs.YtfpcdlpfmlaakaaGreatDoor
namespace Go.Proofs.YtfpcdlpfmlaakaaGreatDoor
open Go.RowKit
theorem Foot.mono {b bd bv : Nat} {vp vp' : Value} {n : Nat} (h : ∀ k, vp'.ownBlock = some k → vp.ownBlock = some k ∨ n ≤ k) : ∀ k, k < n → Foot b bd bv vp' k → Foot b bd bv vp k := fun k hk hf => by
  rcases hf with e | e | e | e
  · exact .inl e
  · exact .inr (.inl e)
  · exact .inr (.inr (.inl e))
  · rcases h k e with e' | e'
    · exact .inr (.inr (.inr e'))
    · omega
theorem DkAt.ge {W : World} {B b bd bv : Nat} {vp : Value} {D : DS} (h : DkAt W B b bd bv vp D) : ∀ k, Foot b bd bv vp k → B ≤ k := fun k hk => by
  rcases hk with rfl | rfl | rfl | hk
  · exact h.hb
  · exact h.hbd
  · exact h.hbv
  · rcases h.own.2 with ⟨rfl, _⟩ | ⟨g, cap, cur, rfl, q, _⟩
    · simp [Value.ownBlock] at hk
    · simp [Value.ownBlock] at hk
      omega
theorem DkAt.lt {W : World} {B b bd bv : Nat} {vp : Value} {D : DS} (h : DkAt W B b bd bv vp D) : ∀ k, Foot b bd bv vp k → k < W.heap.size := fun k hk => by
  rcases hk with rfl | rfl | rfl | hk
  · exact h.blk.lt
  · exact h.dur.lt
  · exact h.vis.lt
  · rcases h.own.2 with ⟨rfl, _⟩ | ⟨g, cap, cur, rfl, _, h2, _⟩
    · simp [Value.ownBlock] at hk
    · simp [Value.ownBlock] at hk
      subst hk
      exact (Array.getElem?_eq_some_iff.1 h2).1
/-- A step on a disk leaves what lay below B. -/
theorem DkAt.below {W W' : World} {B b bd bv : Nat} {vp : Value} {D : DS} (h : DkAt W B b bd bv vp D) (hB : B ≤ W.heap.size) (hf : Fr (Foot b bd bv vp) W W') : Below B W W' := hf.below B hB h.ge
end Go.Proofs.YtfpcdlpfmlaakaaGreatDoor
namespace Go.Proofs.YtfpcdlpfmlaakaaGreatDoor
open Go.RowKit Onair
def endN (R : List Rec) : Nat := (logL zero32 R).length
def headR (R : List Rec) : ByteArray := headF zero32 R
def entR (R : List Rec) : List ByteArray := entF zero32 R
def zerosB (n : Nat) : ByteArray := ⟨(zeroL n).toArray⟩
theorem zerosB_size (n : Nat) : (zerosB n).size = n := by
  show (zeroL n).toArray.size = n
  simp [zeroL]
theorem zerosB_data (n : Nat) : (zerosB n).data.toList = zeroL n := by simp [zerosB]
/-- A write and a sync. -/
def putE (D : DS) (o : Nat) (s : ByteArray) : Int := stE (writeD D o s)
def putD (D : DS) (o : Nat) (s : ByteArray) : DS := syncD (writeD D o s)
def allV (l : List Rec) : Bool := l.all validR
/-- What the log stores for the group l behind R. -/
def outL' (R l : List Rec) : List UInt8 := logL (headR R) l
def outB' (R l : List Rec) : ByteArray := ⟨(outL' R l).toArray⟩
def tailB (R l : List Rec) : ByteArray := ⟨((outL' R l).drop 1).toArray⟩
def oneB : ByteArray := ⟨#[1]⟩
structure LS where
  D : DS
  R : List Rec
  br : Bool
def appC (s : LS) (l : List Rec) : Int × LS :=
  if s.br = true ∨ allV l = false then (250, s)
  else if s.D.vis.length < endN s.R + (outL' s.R l).length then (251, s)
  else if l = [] then (0, s)
  else if putE s.D (endN s.R + 1) (tailB s.R l) ≠ 0 then (241, ⟨putD s.D (endN s.R + 1) (tailB s.R l), s.R, true⟩)
  else if putE (putD s.D (endN s.R + 1) (tailB s.R l)) (endN s.R) oneB ≠ 0 then (241, ⟨putD (putD s.D (endN s.R + 1) (tailB s.R l)) (endN s.R) oneB, s.R, true⟩)
  else (0, ⟨putD (putD s.D (endN s.R + 1) (tailB s.R l)) (endN s.R) oneB, s.R ++ l, false⟩)
/-- The records, the error, the disk behind Open. -/
def openR (D : DS) : List Rec := (scanP D.vis).1
def openE (D : DS) : Int :=
  if D.lost then 241 else if (scanP D.vis).2 then 252
  else if D.vis.drop (endN (openR D)) = zeroL (D.vis.length - endN (openR D)) then 0
  else putE D (endN (openR D)) (zerosB (D.vis.length - endN (openR D)))
def openD (D : DS) : DS :=
  if D.lost then D else if (scanP D.vis).2 then D
  else if D.vis.drop (endN (openR D)) = zeroL (D.vis.length - endN (openR D)) then D
  else putD D (endN (openR D)) (zerosB (D.vis.length - endN (openR D)))
theorem openR_back (D : DS) : (∀ r ∈ openR D, validR r = true) ∧ D.vis.take (endN (openR D)) = logL zero32 (openR D) ∧ endN (openR D) ≤ D.vis.length := by
  obtain ⟨h1, h2, h3⟩ := scanF_back (D.vis.length + 1) D.vis 0 zero32
  refine ⟨h1, h2, ?_⟩
  rcases h3 with h3 | h3
  · show (logL zero32 (scanF (D.vis.length + 1) D.vis 0 zero32).1).length ≤ _
    rw [h3]
    exact Nat.zero_le _
  · rw [Nat.zero_add] at h3
    exact h3
theorem endN_append (R l : List Rec) : endN (R ++ l) = endN R + (outL' R l).length := by
  unfold endN outL' headR
  rw [logL_append, List.length_append]
theorem outL'_one (R : List Rec) (r : Rec) (l : List Rec) : outL' R (r :: l) = 1 :: (outL' R (r :: l)).drop 1 := rfl
theorem outL'_bd (R l : List Rec) : (outL' R l).length ≤ 96 * l.length ∧ 33 * l.length ≤ (outL' R l).length := logL_bd _ _
theorem tailB_size (R l : List Rec) (h : l ≠ []) : (tailB R l).size + 1 = (outL' R l).length := by
  have := outL'_bd R l
  have h1 : 0 < l.length := List.length_pos_iff.2 h
  show ((outL' R l).drop 1).toArray.size + 1 = _
  simp
  omega
theorem tailB_data (R l : List Rec) : (tailB R l).data.toList = (outL' R l).drop 1 := by simp [tailB]
theorem insB_nat (D : DS) (o n : Nat) (h : o + n ≤ D.vis.length) : insB D (o : Int) (n : Int) = true := by
  unfold insB
  exact decide_eq_true (by omega)
theorem writeD_in (D : DS) (o : Nat) (s : ByteArray) (hl : D.lost = false) (h : o + s.size ≤ D.vis.length) : writeD D o s = wroteD { D with vis := splice D.vis o s.data.toList, pend := D.pend ++ [(o, s)] } := by
  unfold writeD
  rw [hl, insB_nat D o s.size h]
  simp
theorem stE_lost (D : DS) : stE D = 0 ↔ D.lost = false := by
  unfold stE
  cases D.lost <;> simp
theorem stE_two (D : DS) : stE D = 0 ∨ stE D = 241 := by
  unfold stE
  cases D.lost <;> simp
theorem wroteD_vis (D : DS) : (wroteD D).vis = D.vis ∧ (wroteD D).dur = D.dur ∧ (wroteD D).pend = D.pend := by
  unfold wroteD
  split
  · exact ⟨rfl, rfl, rfl⟩
  · split <;> exact ⟨rfl, rfl, rfl⟩
theorem writeD_len (D : DS) (o : Nat) (s : ByteArray) : (writeD D o s).vis.length = D.vis.length := by
  unfold writeD
  split
  · rfl
  · split
    · rename_i h
      have := of_decide_eq_true h
      rw [(wroteD_vis _).1]
      exact splice_len _ _ _ (by rw [blen]; omega)
    · rfl
theorem syncD_vis (D : DS) : (syncD D).vis = D.vis := by
  unfold syncD
  split <;> rfl
theorem putD_len (D : DS) (o : Nat) (s : ByteArray) : (putD D o s).vis.length = D.vis.length := by
  unfold putD
  rw [syncD_vis, writeD_len]
/-- A disk without pending writes, a cut or a loss, that holds exactly the log R. -/
structure Cln (D : DS) (R : List Rec) : Prop where
  lost : D.lost = false
  cut : D.cut = 0
  pend : D.pend = []
  dur : D.dur = D.vis
  fit : endN R ≤ D.vis.length
  vis : D.vis = logL zero32 R ++ zeroL (D.vis.length - endN R)
  ok : ∀ r ∈ R, validR r = true
theorem zeroL_head (n : Nat) : (zeroL n).getD 0 0 = 0 := by cases n <;> rfl
theorem scan_log (R : List Rec) (q : List UInt8) (hv : ∀ r ∈ R, validR r = true) (hq : q.getD 0 0 = 0) : scanP (logL zero32 R ++ q) = (R, false) := by
  unfold scanP
  have := scanF_mk R ((logL zero32 R ++ q).length + 1) (logL zero32 R ++ q) [] q zero32 hv rfl (by
    have := (logL_bd zero32 R).2
    rw [List.length_append]
    omega) hq
  exact this
theorem Cln.scan {D : DS} {R : List Rec} (h : Cln D R) : scanP D.vis = (R, false) := by
  rw [h.vis]
  exact scan_log R _ h.ok (zeroL_head _)
theorem Cln.openR {D : DS} {R : List Rec} (h : Cln D R) : openR D = R := by unfold Go.Proofs.YtfpcdlpfmlaakaaGreatDoor.openR; rw [h.scan]
theorem Cln.zeros {D : DS} {R : List Rec} (h : Cln D R) : D.vis.drop (endN R) = zeroL (D.vis.length - endN R) := by
  have h1 := h.vis
  have : D.vis.drop (endN R) = (logL zero32 R ++ zeroL (D.vis.length - endN R)).drop (endN R) := congrArg _ h1
  exact this.trans (List.drop_left' (show (logL zero32 R).length = endN R from rfl))
theorem Cln.openE {D : DS} {R : List Rec} (h : Cln D R) : openE D = 0 := by
  unfold Go.Proofs.YtfpcdlpfmlaakaaGreatDoor.openE
  rw [h.lost, h.scan, h.openR, if_pos h.zeros]
  rfl
theorem Cln.openD {D : DS} {R : List Rec} (h : Cln D R) : openD D = D := by
  unfold Go.Proofs.YtfpcdlpfmlaakaaGreatDoor.openD
  rw [h.lost, h.scan, h.openR, if_pos h.zeros]
  rfl
theorem Cln.new (n : Nat) : Cln (newD n) [] := by
  refine ⟨rfl, rfl, rfl, rfl, Nat.zero_le _, ?_, fun r hr => by simp at hr⟩
  show zeroL n = logL zero32 [] ++ zeroL ((zeroL n).length - 0)
  rw [zeroL_len, Nat.sub_zero]
  rfl
end Go.Proofs.YtfpcdlpfmlaakaaGreatDoor
namespace Go.Proofs.YtfpcdlpfmlaakaaGreatDoor
open Go.RowKit Onair
theorem splice_at (p m q s : List UInt8) (hm : m.length = s.length) : splice (p ++ m ++ q) p.length s = p ++ s ++ q := by
  unfold splice
  rw [← hm, ← List.length_append, List.drop_left, List.append_assoc p m q, List.take_left]
theorem zeroL_add (a b : Nat) : zeroL (a + b) = zeroL a ++ zeroL b := by
  unfold zeroL
  rw [List.replicate_append_replicate]
theorem outL'_split (R l : List Rec) (h : l ≠ []) : outL' R l = 1 :: (tailB R l).data.toList := by
  rw [tailB_data]
  match l, h with
  | r :: l, _ => exact outL'_one R r l
/-- The content between the two steps of an append. -/
def midL (D : DS) (R l : List Rec) : List UInt8 := logL zero32 R ++ (0 :: (tailB R l).data.toList ++ zeroL (D.vis.length - endN (R ++ l)))
def newL (D : DS) (R l : List Rec) : List UInt8 := logL zero32 (R ++ l) ++ zeroL (D.vis.length - endN (R ++ l))
theorem splice_tail {D : DS} {R : List Rec} (h : Cln D R) (l : List Rec) (hl : l ≠ []) (hr : endN R + (outL' R l).length ≤ D.vis.length) (t : List UInt8) (m : Nat) (ht : t = (tailB R l).data.toList.take m) :
    ∃ z, splice D.vis (endN R + 1) t = logL zero32 R ++ 0 :: z := by
  have hsz := tailB_size R l hl
  have htl : t.length ≤ (tailB R l).size := by rw [ht, List.length_take, blen]; omega
  obtain ⟨k, hk⟩ : ∃ k, D.vis.length - endN R = 1 + (t.length + k) := ⟨D.vis.length - endN R - 1 - t.length, by omega⟩
  refine ⟨t ++ zeroL k, ?_⟩
  have e : D.vis = (logL zero32 R ++ [0]) ++ zeroL t.length ++ zeroL k := by
    rw [h.vis, hk, zeroL_add, zeroL_add]
    simp [zeroL]
  rw [e, show endN R + 1 = (logL zero32 R ++ [0]).length from by rw [List.length_append]; rfl, splice_at _ _ _ _ (by rw [zeroL_len])]
  simp
theorem splice_mid {D : DS} {R : List Rec} (h : Cln D R) (l : List Rec) (hl : l ≠ []) (hr : endN R + (outL' R l).length ≤ D.vis.length) :
    splice D.vis (endN R + 1) (tailB R l).data.toList = midL D R l := by
  have hsz := tailB_size R l hl
  have ea := endN_append R l
  obtain ⟨k, hk⟩ : ∃ k, D.vis.length - endN R = 1 + ((tailB R l).data.toList.length + k) := ⟨D.vis.length - endN R - 1 - (tailB R l).size, by rw [blen]; omega⟩
  have hk2 : D.vis.length - endN (R ++ l) = k := by rw [blen] at hk; omega
  have e : D.vis = (logL zero32 R ++ [0]) ++ zeroL (tailB R l).data.toList.length ++ zeroL k := by
    rw [h.vis, hk, zeroL_add, zeroL_add]
    simp [zeroL]
  unfold midL
  rw [hk2]
  conv => lhs; rw [e]
  rw [show endN R + 1 = (logL zero32 R ++ [0]).length from by rw [List.length_append]; rfl, splice_at _ _ _ _ (by rw [zeroL_len])]
  simp
theorem splice_new {D : DS} {R : List Rec} (l : List Rec) (hl : l ≠ []) : splice (midL D R l) (endN R) oneB.data.toList = newL D R l := by
  unfold midL newL
  rw [show logL zero32 R ++ (0 :: (tailB R l).data.toList ++ zeroL (D.vis.length - endN (R ++ l))) = logL zero32 R ++ [0] ++ ((tailB R l).data.toList ++ zeroL (D.vis.length - endN (R ++ l))) from by simp,
    show endN R = (logL zero32 R).length from rfl, splice_at (logL zero32 R) [0] _ oneB.data.toList rfl, logL_append, show logL (headF zero32 R) l = outL' R l from rfl, outL'_split R l hl]
  simp [oneB]
theorem midL_len {D : DS} {R : List Rec} (l : List Rec) (hl : l ≠ []) (hr : endN R + (outL' R l).length ≤ D.vis.length) : (midL D R l).length = D.vis.length := by
  have hsz := tailB_size R l hl
  have ea := endN_append R l
  unfold midL
  simp only [List.length_append, List.length_cons, blen, zeroL_len]
  have : (logL zero32 R).length = endN R := rfl
  omega
theorem newL_len {D : DS} {R : List Rec} (l : List Rec) (hr : endN (R ++ l) ≤ D.vis.length) : (newL D R l).length = D.vis.length := by
  unfold newL
  rw [List.length_append, zeroL_len]
  have : (logL zero32 (R ++ l)).length = endN (R ++ l) := rfl
  omega
theorem allV_iff (l : List Rec) : allV l = true ↔ ∀ r ∈ l, validR r = true := by unfold allV; rw [List.all_eq_true]
theorem oneB_size : oneB.size = 1 := rfl
/-- The first step of an append. -/
theorem Cln.first {D : DS} {R : List Rec} (h : Cln D R) (c : Nat) (l : List Rec) (hl : l ≠ []) (hr : endN R + (outL' R l).length ≤ D.vis.length) :
    writeD { D with cut := c } ((endN R + 1 : Nat) : Int) (tailB R l) = wroteD ⟨false, c, D.vis, midL D R l, [(endN R + 1, tailB R l)]⟩ := by
  have hsz := tailB_size R l hl
  rw [writeD_in { D with cut := c } _ _ h.lost (by show _ ≤ D.vis.length; omega)]
  dsimp only
  rw [splice_mid h l hl hr, h.lost, h.pend, h.dur]
  rfl
theorem second_step {D : DS} {R : List Rec} (l : List Rec) (hl : l ≠ []) (hr : endN R + (outL' R l).length ≤ D.vis.length) (c : Nat) :
    writeD ⟨false, c, midL D R l, midL D R l, []⟩ ((endN R : Nat) : Int) oneB = wroteD ⟨false, c, midL D R l, newL D R l, [(endN R, oneB)]⟩ := by
  have hm := midL_len l hl hr
  have hb := outL'_bd R l
  have hp : 0 < l.length := List.length_pos_iff.2 hl
  rw [writeD_in _ _ _ rfl (by show _ ≤ (midL D R l).length; rw [hm, oneB_size]; omega)]
  dsimp only
  rw [splice_new l hl]
  rfl
theorem wrote_0 (d v : List UInt8) (p : List (Nat × ByteArray)) : wroteD ⟨false, 0, d, v, p⟩ = ⟨false, 0, d, v, p⟩ := rfl
theorem wrote_1 (d v : List UInt8) (p : List (Nat × ByteArray)) : wroteD ⟨false, 1, d, v, p⟩ = ⟨true, 0, d, v, p⟩ := rfl
theorem wrote_2 (c : Nat) (d v : List UInt8) (p : List (Nat × ByteArray)) : wroteD ⟨false, c + 2, d, v, p⟩ = ⟨false, c + 1, d, v, p⟩ := rfl
/-- The first step keeps the power. -/
theorem step1_ok {D : DS} {R : List Rec} (h : Cln D R) (c c' : Nat) (hc : ∀ d v p, wroteD ⟨false, c, d, v, p⟩ = ⟨false, c', d, v, p⟩) (l : List Rec) (hl : l ≠ []) (hr : endN R + (outL' R l).length ≤ D.vis.length) :
    putE { D with cut := c } (endN R + 1) (tailB R l) = 0 ∧ putD { D with cut := c } (endN R + 1) (tailB R l) = ⟨false, c', midL D R l, midL D R l, []⟩ := by
  have := h.first c l hl hr
  rw [hc] at this
  unfold putE putD
  rw [this]
  exact ⟨rfl, rfl⟩
theorem step2_ok {D : DS} {R : List Rec} (l : List Rec) (hl : l ≠ []) (hr : endN R + (outL' R l).length ≤ D.vis.length) (c c' : Nat) (hc : ∀ d v p, wroteD ⟨false, c, d, v, p⟩ = ⟨false, c', d, v, p⟩) :
    putE ⟨false, c, midL D R l, midL D R l, []⟩ (endN R) oneB = 0 ∧ putD ⟨false, c, midL D R l, midL D R l, []⟩ (endN R) oneB = ⟨false, c', newL D R l, newL D R l, []⟩ := by
  have := second_step l hl hr c
  rw [hc] at this
  unfold putE putD
  rw [this]
  exact ⟨rfl, rfl⟩
theorem Cln.with_cut {D : DS} {R : List Rec} (h : Cln D R) : ({ D with cut := 0 } : DS) = D := by
  have := h.cut
  obtain ⟨a, b, c, d, e⟩ := D
  dsimp only at this
  rw [this]
theorem Cln.put {D : DS} {R : List Rec} (h : Cln D R) (l : List Rec) (hv : allV l = true) (hr : endN R + (outL' R l).length ≤ D.vis.length) : Cln ⟨false, 0, newL D R l, newL D R l, []⟩ (R ++ l) := by
  have ea := endN_append R l
  have hn := newL_len (D := D) (R := R) l (by omega)
  refine ⟨rfl, rfl, rfl, rfl, by show _ ≤ (newL D R l).length; omega, ?_, ?_⟩
  · show newL D R l = logL zero32 (R ++ l) ++ zeroL ((newL D R l).length - endN (R ++ l))
    rw [hn]
    rfl
  · intro r hr'
    rcases List.mem_append.1 hr' with h1 | h1
    · exact h.ok r h1
    · exact (allV_iff l).1 hv r h1
/-- Appending to a clean log. -/
theorem Cln.app {D : DS} {R : List Rec} (h : Cln D R) (l : List Rec) :
    ((allV l = false ∧ appC ⟨D, R, false⟩ l = (250, ⟨D, R, false⟩)) ∨ (allV l = true ∧ D.vis.length < endN R + (outL' R l).length ∧ appC ⟨D, R, false⟩ l = (251, ⟨D, R, false⟩)) ∨
     (allV l = true ∧ endN (R ++ l) ≤ D.vis.length ∧ ∃ D', appC ⟨D, R, false⟩ l = (0, ⟨D', R ++ l, false⟩) ∧ Cln D' (R ++ l) ∧ D'.vis.length = D.vis.length)) := by
  have ea := endN_append R l
  unfold appC
  cases hv : allV l with
  | false => exact .inl ⟨rfl, by rw [if_pos (.inr rfl)]⟩
  | true =>
    rw [if_neg (by simp)]
    by_cases hr : D.vis.length < endN R + (outL' R l).length
    · exact .inr (.inl ⟨rfl, hr, by rw [if_pos hr]⟩)
    · rw [if_neg hr]
      have hr' : endN R + (outL' R l).length ≤ D.vis.length := by omega
      by_cases hl : l = []
      · subst hl
        exact .inr (.inr ⟨rfl, by omega, D, by rw [if_pos rfl, List.append_nil], by rw [List.append_nil]; exact h, rfl⟩)
      · rw [if_neg hl]
        have s1 := step1_ok h 0 0 wrote_0 l hl hr'
        rw [h.with_cut] at s1
        have s2 := step2_ok l hl hr' 0 0 wrote_0 (D := D)
        dsimp only
        rw [if_neg (by rw [s1.1]; simp), s1.2, if_neg (by rw [s2.1]; simp), s2.2]
        exact .inr (.inr ⟨rfl, by omega, _, rfl, h.put l hv hr', newL_len l (by omega)⟩)
/-- Opening a disk with power, no cut and a content that is not damaged. -/
theorem open_ok (D : DS) (R : List Rec) (hl : D.lost = false) (hc : D.cut = 0) (hs : scanP D.vis = (R, false)) : openE D = 0 ∧ openR D = R := by
  have hR : openR D = R := by unfold openR; rw [hs]
  refine ⟨?_, hR⟩
  have hb := (openR_back D).2.2
  unfold openE
  rw [hl, hs]
  simp only [Bool.false_eq_true, if_false]
  split
  · rfl
  · unfold putE
    rw [writeD_in _ _ _ hl (by rw [zerosB_size]; omega)]
    unfold wroteD
    dsimp only
    rw [if_pos hc, stE_lost]
    exact hl
theorem crash_none (D : DS) (hp : D.pend = []) (ks : Nat → Int) (len : Nat) (torn : Int) : (crashD D ks len torn).vis = D.dur := by
  unfold crashD
  rw [hp]
  rfl
theorem crash_one (D : DS) (o : Nat) (s : ByteArray) (hp : D.pend = [(o, s)]) (ks : Nat → Int) (len : Nat) (torn : Int) :
    (crashD D ks len torn).vis = D.dur ∨ ∃ m, (crashD D ks len torn).vis = splice D.dur o (s.data.toList.take m) := by
  unfold crashD
  rw [hp]
  show crashL _ _ _ _ _ 1 = _ ∨ ∃ m, crashL _ _ _ _ _ 1 = _
  unfold crashL
  split
  · refine .inr ?_
    show ∃ m, splice D.dur o (cutW _ torn 0 s).data.toList = _
    unfold cutW
    split
    · refine ⟨torn.toNat, ?_⟩
      congr 1
      rw [ByteArray.data_extract, Array.toList_extract, List.extract_eq_take_drop, Nat.sub_zero, List.drop_zero]
    · exact ⟨s.size, by rw [List.take_of_length_le (by rw [blen]; exact Nat.le_refl _)]⟩
  · exact .inl rfl
/-- THE STAGE'S THEOREM: wherever the power fails while a group is appended, the log then has the records before it, or the whole group in addition. -/
theorem survive {D : DS} {R : List Rec} (h : Cln D R) (l : List Rec) (hv : allV l = true) (c : Nat) (hc1 : 1 ≤ c) (hc2 : c ≤ 3) (ks : Nat → Int) (len : Nat) (torn : Int) (e : Int) (s : LS) (he : appC ⟨{ D with cut := c }, R, false⟩ l = (e, s)) :
    openE (crashD s.D ks len torn) = 0 ∧ ((e = 0 ∧ openR (crashD s.D ks len torn) = R ++ l) ∨ (e = 251 ∧ openR (crashD s.D ks len torn) = R) ∨ (e = 241 ∧ (openR (crashD s.D ks len torn) = R ∨ openR (crashD s.D ks len torn) = R ++ l))) := by
  have ea := endN_append R l
  have old : scanP D.vis = (R, false) := h.scan
  unfold appC at he
  rw [if_neg (by rw [hv]; simp)] at he
  by_cases hr : D.vis.length < endN R + (outL' R l).length
  · rw [if_pos hr] at he
    cases he
    have := open_ok (crashD { D with cut := c } ks len torn) R rfl rfl (by rw [crash_none { D with cut := c } h.pend]; show scanP D.dur = _; rw [h.dur]; exact old)
    exact ⟨this.1, .inr (.inl ⟨rfl, this.2⟩)⟩
  · rw [if_neg hr] at he
    have hr' : endN R + (outL' R l).length ≤ D.vis.length := by omega
    by_cases hl : l = []
    · subst hl
      rw [if_pos rfl] at he
      cases he
      have := open_ok (crashD { D with cut := c } ks len torn) R rfl rfl (by rw [crash_none { D with cut := c } h.pend]; show scanP D.dur = _; rw [h.dur]; exact old)
      exact ⟨this.1, .inl ⟨rfl, by rw [List.append_nil]; exact this.2⟩⟩
    · rw [if_neg hl] at he
      have hnew : scanP (newL D R l) = (R ++ l, false) := scan_log (R ++ l) _ (fun r hr'' => by
        rcases List.mem_append.1 hr'' with h1 | h1
        · exact h.ok r h1
        · exact (allV_iff l).1 hv r h1) (zeroL_head _)
      have hmid : scanP (midL D R l) = (R, false) := scan_log R _ h.ok rfl
      dsimp only at he
      by_cases hc : c = 1
      · subst hc
        have f := h.first 1 l hl hr'
        rw [wrote_1] at f
        have hE : putE { D with cut := 1 } (endN R + 1) (tailB R l) = 241 := by unfold putE; rw [f]; rfl
        have hD : putD { D with cut := 1 } (endN R + 1) (tailB R l) = ⟨true, 0, D.vis, midL D R l, [(endN R + 1, tailB R l)]⟩ := by unfold putD; rw [f]; rfl
        rw [hE, if_pos (by decide), hD] at he
        cases he
        have hs : scanP (crashD ⟨true, 0, D.vis, midL D R l, [(endN R + 1, tailB R l)]⟩ ks len torn).vis = (R, false) := by
          rcases crash_one ⟨true, 0, D.vis, midL D R l, [(endN R + 1, tailB R l)]⟩ _ _ rfl ks len torn with e | ⟨m, e⟩
          · rw [e]; exact old
          · rw [e]
            obtain ⟨z, hz⟩ := splice_tail h l hl hr' _ m rfl
            show scanP (splice D.vis _ _) = _
            rw [hz]
            exact scan_log R _ h.ok rfl
        have := open_ok _ R rfl rfl hs
        exact ⟨this.1, .inr (.inr ⟨rfl, .inl this.2⟩)⟩
      · obtain ⟨k, rfl⟩ : ∃ k, c = k + 2 := ⟨c - 2, by omega⟩
        have s1 := step1_ok h (k + 2) (k + 1) (wrote_2 k) l hl hr'
        rw [if_neg (by rw [s1.1]; simp), s1.2] at he
        by_cases hk : k = 0
        · subst hk
          have f := second_step l hl hr' 1 (D := D)
          rw [wrote_1] at f
          have hE : putE ⟨false, 0 + 1, midL D R l, midL D R l, []⟩ (endN R) oneB = 241 := by unfold putE; rw [f]; rfl
          have hD : putD ⟨false, 0 + 1, midL D R l, midL D R l, []⟩ (endN R) oneB = ⟨true, 0, midL D R l, newL D R l, [(endN R, oneB)]⟩ := by unfold putD; rw [f]; rfl
          rw [hE, if_pos (by decide), hD] at he
          cases he
          have hs : scanP (crashD ⟨true, 0, midL D R l, newL D R l, [(endN R, oneB)]⟩ ks len torn).vis = (R, false) ∨ scanP (crashD ⟨true, 0, midL D R l, newL D R l, [(endN R, oneB)]⟩ ks len torn).vis = (R ++ l, false) := by
            rcases crash_one ⟨true, 0, midL D R l, newL D R l, [(endN R, oneB)]⟩ _ _ rfl ks len torn with e | ⟨m, e⟩
            · rw [e]; exact .inl hmid
            · rw [e]
              show scanP (splice (midL D R l) _ _) = _ ∨ scanP (splice (midL D R l) _ _) = _
              cases m with
              | zero => rw [List.take_zero, splice_nil]; exact .inl hmid
              | succ m =>
                rw [List.take_of_length_le (by show 1 ≤ m + 1; omega), splice_new l hl]
                exact .inr hnew
          rcases hs with hs | hs
          · have := open_ok _ R rfl rfl hs
            exact ⟨this.1, .inr (.inr ⟨rfl, .inl this.2⟩)⟩
          · have := open_ok _ (R ++ l) rfl rfl hs
            exact ⟨this.1, .inr (.inr ⟨rfl, .inr this.2⟩)⟩
        · obtain ⟨j, rfl⟩ : ∃ j, k = j + 1 := ⟨k - 1, by omega⟩
          have s2 := step2_ok l hl hr' (j + 2) (j + 1) (wrote_2 j) (D := D)
          rw [if_neg (by rw [s2.1]; simp), s2.2] at he
          cases he
          have := open_ok (crashD ⟨false, j + 1, newL D R l, newL D R l, []⟩ ks len torn) (R ++ l) rfl rfl (by rw [crash_none _ rfl]; exact hnew)
          exact ⟨this.1, .inl ⟨rfl, this.2⟩⟩
end Go.Proofs.YtfpcdlpfmlaakaaGreatDoor
