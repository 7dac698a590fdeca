/-
  The walk of the disk's method Crash.
-/
import Derived.WalkKit
import Derived.LoopTactic
import Derived.WalkSpells
import Derived.WalkLawsBesides
import Derived.RegionTactic
import Derived.BigRegion
import Derived.IntWalk
import Derived.Laws.MakeOwn
import Derived.Test.YtdcnddbkjdbbbaaDiskF
set_option linter.unusedVariables false
set_option linter.unusedSimpArgs false
namespace Go.Proofs.Ytdcnddbkjdbbbaa
open Go.RowKit
theorem Try.infoBool : (Try.prog.info? 4).map (fun i => (i.zero, i.size, i.bytes)) = some (some (.bool false), 1, 1) := by kernel_rfl
/-- The cells of 'survives'. -/
def bcells (l : List Bool) : List Value := l.map Value.bool
def bzero (n : Nat) : Array Value := (bcells (List.replicate n false)).toArray
theorem made_false (n : Nat) : madeCells (Value.bool false).cells (n * 1) = bzero n := by
  apply Array.ext
  · simp [madeCells, bzero, bcells]
  · intro i h1 h2
    simp [madeCells, bzero, bcells, Value.cells, Nat.mod_one]
theorem run_make_bools (n : Nat) (hn : n ≤ 16777216) (W : World) : (Instr.makeSlice 58 (.int .i64 (n : Int)) (.int .i64 (n : Int))).run Try.prog W = .ok (.slice (some ⟨W.heap.size, 0, none⟩) n n) (W.alloc (.cells (bzero n) 4)) := by
  obtain ⟨i0, hi, hz0, hz1, hz2⟩ := info_parts Try.infoBool
  have hr := run_make (P := Try.prog) W 58 4 i0 (.bool false) Try.underlying58 hi hz0 .i64 .i64 n n (by omega) (Int.le_refl _) (by rw [hz2]; omega) (by omega)
  rw [Int.toNat_natCast, hz1, made_false] at hr
  exact hr
/-- Which of n writes survive, and the last survivor, by the first j numbers of keep. -/
def survL (ks : Nat → Int) (n : Nat) : Nat → List Bool
  | 0 => List.replicate n false
  | j + 1 => if 0 ≤ ks j ∧ ks j < n then (survL ks n j).set (ks j).toNat true else survL ks n j
def lastK (ks : Nat → Int) (n : Nat) : Nat → Int
  | 0 => -1
  | j + 1 => if 0 ≤ ks j ∧ ks j < n then max (lastK ks n j) (ks j) else lastK ks n j
theorem survL_len (ks : Nat → Int) (n j : Nat) : (survL ks n j).length = n := by
  induction j with
  | zero => simp [survL]
  | succ j ih =>
    unfold survL
    split
    · rw [List.length_set, ih]
    · exact ih
theorem bcells_set (l : List Bool) (i : Nat) (b : Bool) : bcells (l.set i b) = (bcells l).set i (.bool b) := by simp [bcells, List.map_set]
theorem bcells_get (l : List Bool) (i : Nat) (h : i < l.length) : (bcells l)[i]? = some (.bool (l[i]?.getD false)) := by simp [bcells, List.getElem?_eq_getElem h]
theorem lastK_bd (ks : Nat → Int) (n j : Nat) : -1 ≤ lastK ks n j ∧ (lastK ks n j < n ∨ lastK ks n j = -1) := by
  induction j with
  | zero => exact ⟨by simp [lastK], .inr rfl⟩
  | succ j ih =>
    unfold lastK
    split
    · omega
    · exact ih
/-- What of write i goes over. -/
def cutW (last torn : Int) (i : Nat) (s : ByteArray) : ByteArray := if (i : Int) = last ∧ 0 ≤ torn ∧ torn < s.size then s.extract 0 torn.toNat else s
theorem cutW_size (last torn : Int) (i : Nat) (s : ByteArray) : (cutW last torn i s).size ≤ s.size := by
  unfold cutW; split
  · simp; omega
  · exact Nat.le_refl _
/-- The durable content after the first j pending writes. -/
def crashL (sv : List Bool) (last torn : Int) (pend : List (Nat × ByteArray)) (dur : List UInt8) : Nat → List UInt8
  | 0 => dur
  | j + 1 => if sv[j]?.getD false then splice (crashL sv last torn pend dur j) (pend[j]?.getD (0, ⟨#[]⟩)).1 (cutW last torn j (pend[j]?.getD (0, ⟨#[]⟩)).2).data.toList else crashL sv last torn pend dur j
theorem crashL_len (sv : List Bool) (last torn : Int) (pend : List (Nat × ByteArray)) (dur : List UInt8) (hp : ∀ p ∈ pend, p.1 + p.2.size ≤ dur.length) (j : Nat) (hj : j ≤ pend.length) : (crashL sv last torn pend dur j).length = dur.length := by
  induction j with
  | zero => rfl
  | succ j ih =>
    have ih := ih (by omega)
    unfold crashL
    split
    · have hm := hp _ (List.getElem_mem (show j < pend.length by omega))
      have hc := cutW_size last torn j pend[j].2
      rw [List.getElem?_eq_getElem (by omega), Option.getD_some, splice_len _ _ _ (by rw [ih, blen]; omega), ih]
    · exact ih
def crashD (D : DS) (ks : Nat → Int) (len : Nat) (torn : Int) : DS :=
  let r := crashL (survL ks D.pend.length len) (lastK ks D.pend.length len) torn D.pend D.dur D.pend.length
  { lost := false, cut := 0, dur := r, vis := r, pend := [] }
theorem pcells_len (l : List (Nat × ByteArray)) : (pcells l).length = l.length * 2 := by
  induction l with
  | nil => rfl
  | cons p l ih => simp [pcells] at ih ⊢; omega
theorem pcell_at (l : List (Nat × ByteArray)) (i o : Nat) (s : ByteArray) (h : l[i]? = some (o, s)) : (pcells l)[i * 2]? = some (.int .i64 (o : Int)) ∧ (pcells l)[i * 2 + 1]? = some (.string s) := by
  induction l generalizing i with
  | nil => simp at h
  | cons p l ih =>
    cases i with
    | zero =>
      simp at h
      subst h
      exact ⟨rfl, rfl⟩
    | succ i =>
      have := ih i (by simpa using h)
      rw [show (i + 1) * 2 = i * 2 + 1 + 1 by omega]
      exact this
/-- A slice of integers that a call may read. -/
def IntsAt (W : World) (oa : Option Addr) (len : Nat) (ks : Nat → Int) (S : Nat → Prop) : Prop := len = 0 ∨ ∃ g off, oa = some ⟨g, off, none⟩ ∧ g < W.heap.size ∧ ¬ S g ∧ ∀ i, i < len → W.cell? ⟨g, off + i, none⟩ = some (.int .i64 (ks i))
set_option maxHeartbeats 2000000 in
set_option maxRecDepth 100000 in
theorem crash_walk (W : World) (B b bd bv : Nat) (vp : Value) (D : DS) (oa : Option Addr) (len cap : Nat) (ks : Nat → Int) (torn : Int) (hB : B ≤ W.heap.size) (hlc : len ≤ maxLen) (hpl : D.pend.length ≤ 1000000) (hpk : ∀ p ∈ D.pend, p.1 + p.2.size ≤ D.vis.length)
    (hks : ∀ i, -9223372036854775808 ≤ ks i ∧ ks i ≤ 9223372036854775807) (ht0 : -9223372036854775808 ≤ torn) (ht1 : torn ≤ 9223372036854775807) (hsz : ∀ p ∈ D.pend, p.2.size ≤ maxLen) (hk : IntsAt W oa len ks (Foot b bd bv vp)) (h : DkAt W B b bd bv vp D) :
    Calls Try.prog 25 #[.pointer (some ⟨b, 0, none⟩), .slice oa len cap, .int .i64 torn] W fun e w' => e = .returned (.int .i64 0) ∧ ∃ vp', DkAt w' B b bd bv vp' (crashD D ks len torn) ∧ vp'.ownBlock = vp.ownBlock ∧ Fr (Foot b bd bv vp) W w' := by
  unfold maxLen at hlc
  have hm := h.max
  have hne : (stE D == 1) = false := by unfold stE; split <;> rfl
  have c4 := h.blk.cell 4
  simp only [List.getElem?_cons_zero, List.getElem?_cons_succ] at c4
  obtain ⟨n, hn⟩ : ∃ n, D.pend.length = n := ⟨_, rfl⟩
  obtain ⟨ov, cv, rfl⟩ : ∃ oa cap, vp = .slice oa n cap := by
    rcases h.own.2 with ⟨rfl, h0⟩ | ⟨g, cap, _, rfl, _⟩
    · exact ⟨none, 0, by rw [← hn, h0]⟩
    · exact ⟨_, cap, by rw [← hn]⟩
  have hmk := run_make_bools n (by omega)
  have HN := Lib.hid hn
  have HPK := Lib.hid hpk
  have HSZ := Lib.hid hsz
  have HKS := Lib.hid hks
  have HK := Lib.hid hk
  have H := Lib.hid h
  have hn1 : n ≤ 1000000 := by omega
  have hbs : Blk (W.alloc (.cells (bzero n) 4)) W.heap.size 4 (bcells (survL ks n 0)) := by
    exact Blk.new W _ _
  have HBS := Lib.hid hbs
  have hf0 : Fr (fun _ => False) W (W.alloc (.cells (bzero n) 4)) := (Fr.refl _ W).alloc _
  have HF0 := Lib.hid hf0
  have hlt0 : W.heap.size < (W.alloc (.cells (bzero n) 4)).heap.size := by simp
  have HLT := Lib.hid hlt0
  clear hn hpk hsz hks hk h hbs hf0 hpl hlt0
  go_enter Try.func25, Try.ntmps25
  go_wp2_with fail
  refine (state_any W B b bd bv _ D H.out).mono ?_
  rintro e w' ⟨rfl, rfl⟩
  go_wp2_with fail
  clear hmk
  obtain ⟨bs, hbs⟩ : ∃ bs, W.heap.size = bs := ⟨_, rfl⟩
  rw [hbs] at HBS HLT ⊢
  have HBSZ := Lib.hid hbs
  clear hbs
  go_loopw [8, 25] (fun l i wr => ∃ j : Nat, j ≤ len ∧ i = .int .i64 j ∧ l = .int .i64 (lastK ks n j) ∧ Hid (Blk wr bs 4 (bcells (survL ks n j))) ∧ Hid (Fr (fun _ => False) W wr) ∧ bs < wr.heap.size) (fun _ i _ => len - (intOf i).toNat)
  case atStart => exact ⟨0, Nat.zero_le _, rfl, rfl, HBS, HF0, HLT.out⟩
  case round =>
    obtain ⟨j, hj, rfl, rfl, HBr, HFr, hbr⟩ := hrel
    clear HBS HF0 HLT
    have hsl := survL_len ks n j
    have hlk := lastK_bd ks n j
    by_cases hjl : j = len
    · subst hjl
      have hjj : ¬ (j : Int) < j := by omega
      have hD0 : DkAt wr B b bd bv (.slice ov n cv) D := H.out.fr HFr.out (fun _ _ e => e)
      have c4r := hD0.blk.cell 4
      simp only [List.getElem?_cons_zero, List.getElem?_cons_succ] at c4r
      have HD0 := Lib.hid hD0
      have HF0 : Hid (Fr (Foot b bd bv (.slice ov n cv)) W wr) := HFr.out.mono (fun _ e => e.elim)
      obtain ⟨sv, hsv⟩ : ∃ sv, survL ks n j = sv := ⟨_, rfl⟩
      obtain ⟨L, hL⟩ : ∃ L, lastK ks n j = L := ⟨_, rfl⟩
      rw [hsv] at HBr hsl
      rw [hL] at hlk ⊢
      have HSV := Lib.hid hsv
      have HL := Lib.hid hL
      have HSL := Lib.hid hsl
      clear hD0 hsv hL HFr hsl
      go_wp2_with fail
      obtain ⟨wo, hwo⟩ : ∃ wo : World, wo = wr := ⟨_, rfl⟩
      rw [← hwo] at HBr HD0 HF0 hbr ⊢
      clear hwo c4r
      go_loopw [49] (fun i wr => ∃ i' : Nat, i' ≤ n ∧ i = .int .i64 i' ∧ Hid (DkAt wr B b bd bv (.slice ov n cv) { D with dur := crashL sv L torn D.pend D.dur i' }) ∧ Hid (Blk wr bs 4 (bcells sv)) ∧ Hid (Fr (Foot b bd bv (.slice ov n cv)) W wr) ∧ bs < wr.heap.size) (fun i _ => n - (intOf i).toNat)
      case atStart => exact ⟨0, Nat.zero_le _, rfl, HD0, HBr, HF0, hbr⟩
      case round =>
        obtain ⟨i, hi, rfl, HDq, HBq, HFq, hbq⟩ := hrel
        clear HD0 HBr HF0 hbr
        by_cases hin : i = n
        · subst hin
          have hii : ¬ (i : Int) < i := by omega
          have hlen := crashL_len sv L torn D.pend D.dur (fun p hp => by rw [H.out.len]; exact HPK.out p hp) i (by rw [HN.out]; exact Nat.le_refl _)
          rw [H.out.len] at hlen
          have c1 := HDq.out.blk.cell 2
          have c2 := HDq.out.blk.cell 3
          simp only [List.getElem?_cons_zero, List.getElem?_cons_succ] at c1 c2
          obtain ⟨r, hr⟩ : ∃ r, crashL sv L torn D.pend D.dur i = r := ⟨_, rfl⟩
          rw [hr] at HDq hlen
          have HR := Lib.hid hr
          have hcp := run_copy_blk HDq.out.vis.drew HDq.out.dur.drew hlen.symm
          rw [show ({ D with dur := r } : DS).dur.length = D.vis.length from hlen] at hcp
          have HD2 := Lib.hid (HDq.out.drew.setVis r hlen)
          have HF2 : Hid (Fr (Foot b bd bv (.slice ov i cv)) W (wr.drew.setRow bv (cellsB r).toArray)) := HFq.out.drew.setRow bv _ (.inl (.inr (.inr (.inl rfl))))
          clear hr hlen HDq HBq HFq hbq
          go_wp2_with fail
          go_region
          go_wp2_with fail
          refine (settle_any _ B b bd bv _ _ HD2.out).mono ?_
          rintro e w' ⟨⟨v, rfl⟩, vp', hd', ho', hf'⟩
          have HD3 := Lib.hid hd'
          have HF3 := Lib.hid (HF2.out.trans hf' (fun _ _ h => h))
          have HO3 := Lib.hid ho'
          clear hd' hf' ho'
          go_wp2_with fail
          refine (restore_any _ B b bd bv vp' _ HD3.out).mono ?_
          rintro e w'' ⟨⟨v, rfl⟩, rfl⟩
          go_wp2_with fail
          go_ret
          refine ⟨rfl, vp', ?_, HO3.out, HF3.out.trans (Fr.power _ _ _ _) (fun _ _ h => .inl h)⟩
          have h := HD3.out.power false 0
          have e : crashD D ks j torn = { D with lost := false, cut := 0, dur := r, vis := r, pend := [] } := by
            unfold crashD
            simp only [HN.out, HSV.out, HL.out, HR.out]
          rw [e]
          exact h
        · have hin' : (i : Int) < n := by omega
          obtain ⟨o, s, hos⟩ : ∃ o s, D.pend[i]? = some (o, s) := by
            have : i < D.pend.length := by rw [HN.out]; omega
            exact ⟨_, _, List.getElem?_eq_getElem this⟩
          have hmem : (o, s) ∈ D.pend := List.mem_of_getElem? hos
          have hfit : o + s.size ≤ D.vis.length := HPK.out _ hmem
          have hss : s.size ≤ maxLen := HSZ.out _ hmem
          unfold maxLen at hss
          obtain ⟨gp, rfl, hgp1, hgp2, hgp3⟩ : ∃ gp, ov = some ⟨gp, 0, none⟩ ∧ wr.cell? ⟨gp, i * 2, none⟩ = some (.int .i64 (o : Int)) ∧ wr.cell? ⟨gp, i * 2 + 1, none⟩ = some (.string s) ∧ n ≤ cv := by
            have ho := HDq.out.own
            rcases ho.2 with ⟨e, h0⟩ | ⟨g, cap, cur, e, q1, q2, q3, q4, q5, q6⟩
            · have : D.pend.length = 0 := h0
              rw [HN.out] at this
              omega
            · obtain ⟨e1, e2, e3⟩ := Value.slice.inj e
              subst e1
              subst e3
              have hc := pcell_at D.pend i o s hos
              have hl : D.pend.length = n := HN.out
              have ho' : wr.ownsRow B 69 2 (.slice (some ⟨g, 0, none⟩) D.pend.length cv) D.pend.length (pcells D.pend) := by rw [hl] at ho ⊢; exact ho
              refine ⟨g, rfl, ?_, ?_, by omega⟩
              · rw [ho'.cellAt (i * 2) (by omega)]; exact hc.1
              · rw [ho'.cellAt (i * 2 + 1) (by omega)]; exact hc.2
          have hcs := HBq.out.cell i
          rw [bcells_get _ i (by rw [HSL.out]; omega)] at hcs
          obtain ⟨sb, hsb⟩ : ∃ sb, sv[i]?.getD false = sb := ⟨_, rfl⟩
          rw [hsb] at hcs
          have hcl : crashL sv L torn D.pend D.dur (i + 1) = if sb then splice (crashL sv L torn D.pend D.dur i) o (cutW L torn i s).data.toList else crashL sv L torn D.pend D.dur i := by
            rw [crashL, hos, hsb]; rfl
          clear hos hmem hsb
          cases sb
          · have HDn : Hid (DkAt (wr.alloc (.cells #[.int .i64 (o : Int), .string s] 69)) B b bd bv (.slice (some ⟨gp, 0, none⟩) n cv) { D with dur := crashL sv L torn D.pend D.dur (i + 1) }) := by
              show DkAt _ _ _ _ _ _ _
              rw [hcl]
              exact HDq.out.fr ((Fr.refl (fun _ => False) wr).alloc _) (fun _ _ e => e)
            have HBn : Hid (Blk (wr.alloc (.cells #[.int .i64 (o : Int), .string s] 69)) bs 4 (bcells sv)) := HBq.out.alloc _
            have HFn : Hid (Fr (Foot b bd bv (.slice (some ⟨gp, 0, none⟩) n cv)) W (wr.alloc (.cells #[.int .i64 (o : Int), .string s] 69))) := HFq.out.alloc _
            clear hcl
            go_wp2_with fail
            go_roundw
            case rel => exact ⟨i + 1, by omega, by go_num, HDn, HBn, HFn, by simp; omega⟩
            case measure => simp [intOf]; omega
          · obtain ⟨T, hT⟩ : ∃ T, cutW L torn i s = T := ⟨_, rfl⟩
            rw [hT, if_pos rfl] at hcl
            have hTs : T.size ≤ s.size := by rw [← hT]; exact cutW_size _ _ _ _
            have hlen := crashL_len sv L torn D.pend D.dur (fun p hp => by rw [H.out.len]; exact HPK.out p hp) i (by rw [HN.out]; omega)
            rw [H.out.len] at hlen
            -- the world in which the bytes go over, and after it
            obtain ⟨wa, hwa⟩ : ∃ wa, wr.alloc (.cells #[.int .i64 (o : Int), .string s] 69) = wa := ⟨_, rfl⟩
            have hDa : DkAt wa B b bd bv (.slice (some ⟨gp, 0, none⟩) n cv) { D with dur := crashL sv L torn D.pend D.dur i } := by
              rw [← hwa]; exact HDq.out.fr ((Fr.refl (fun _ => False) wr).alloc _) (fun _ _ e => e)
            have HBa : Hid (Blk wa bs 4 (bcells sv)) := by rw [← hwa]; exact HBq.out.alloc _
            have HFa : Hid (Fr (Foot b bd bv (.slice (some ⟨gp, 0, none⟩) n cv)) W wa) := by rw [← hwa]; exact HFq.out.alloc _
            have hba : bs < wa.heap.size := by rw [← hwa]; simp; omega
            have hc0 : wa.cell? ⟨wr.heap.size, 0, none⟩ = some (.int .i64 (o : Int)) := by
              have := (Blk.new wr 69 [.int .i64 (o : Int), .string s]).cell 0
              rw [hwa] at this
              exact this
            have hc1 : wa.cell? ⟨wr.heap.size, 1, none⟩ = some (.string s) := by
              have := (Blk.new wr 69 [.int .i64 (o : Int), .string s]).cell 1
              rw [hwa] at this
              exact this
            have hca2 := hDa.blk.cell 2
            simp only [List.getElem?_cons_zero, List.getElem?_cons_succ] at hca2
            have hcsa : wa.cell? ⟨bs, i, none⟩ = some (.bool true) := by
              have := HBa.out.cell i
              rw [bcells_get _ i (by rw [HSL.out]; omega)] at this
              rw [this]
              have h2 := HBq.out.cell i
              rw [bcells_get _ i (by rw [HSL.out]; omega), hcs] at h2
              exact h2.symm
            have hnb : bs ≠ b ∧ bs ≠ bd ∧ bs ≠ bv := by
              have q1 := H.out.blk.lt
              have q2 := H.out.dur.lt
              have q3 := H.out.vis.lt
              have q4 := HBSZ.out
              omega
            have HDa := Lib.hid hDa
            have hrest : ∃ wz, (∀ ty, (Builtin.copy_ #[40, 9] ty #[if o = D.vis.length then .slice (some ⟨bd, 0, none⟩) 0 0 else .slice (some ⟨bd, o, none⟩) (D.vis.length - o) (D.vis.length - o), .string T]).run Try.prog wa.drew = .ok (goInt T.size) wz) ∧ Hid (DkAt wz B b bd bv (.slice (some ⟨gp, 0, none⟩) n cv) { D with dur := crashL sv L torn D.pend D.dur (i + 1) }) ∧ Hid (Blk wz bs 4 (bcells sv)) ∧ Hid (Fr (Foot b bd bv (.slice (some ⟨gp, 0, none⟩) n cv)) W wz) ∧ bs < wz.heap.size := by
              by_cases ho : o = D.vis.length
              · have hT0 : T.size = 0 := by omega
                refine ⟨wa.drew, fun ty => ?_, ?_, HBa.out.drew, HFa.out.drew, hba⟩
                · rw [if_pos ho, Lib.run_copy_empty_string (P := Try.prog) wa.drew 40 9 ty 5 _ _ _ T Try.underlying40 (by rw [sizeU8]; rfl) hT0, hT0]; rfl
                · show DkAt _ _ _ _ _ _ _
                  rw [hcl, List.eq_nil_of_length_eq_zero (show T.data.toList.length = 0 by rw [blen]; exact hT0), splice_nil]
                  exact HDa.out.drew
              · refine ⟨wa.drew.setRow bd (cellsB (splice (crashL sv L torn D.pend D.dur i) o T.data.toList)).toArray, fun ty => ?_, ?_, ?_, ?_, ?_⟩
                · rw [if_neg ho]
                  exact run_copy_str HDa.out.drew.dur o _ _ T (by omega) (by rw [hlen]; omega) ty
                · show DkAt _ _ _ _ _ _ _
                  rw [hcl]
                  exact HDa.out.drew.setDur _ (by rw [splice_len _ _ _ (by rw [hlen, blen]; omega)]; exact hlen)
                · exact HBa.out.drew.kept (heap_setRow_other _ _ _ _ hnb.2.1)
                · exact HFa.out.drew.setRow bd _ (.inl (.inr (.inl rfl)))
                · rw [size_setRow]; exact hba
            obtain ⟨wz, hcp, HDn, HBn, HFn, hbn⟩ := hrest
            have HT := Lib.hid hT
            clear hcl hT hDa HDa HBa HFa hba hnb HDq HBq HFq hlen hbq hcs hTs
            by_cases ho : o = D.vis.length
            · simp only [if_pos ho] at hcp
              subst ho
              by_cases hcond : (i : Int) = L ∧ 0 ≤ torn ∧ torn < s.size
              · exfalso
                omega
              · have hTx : s = T := by rw [← HT.out]; unfold cutW; rw [if_neg hcond]
                subst hTx
                by_cases h1 : (i : Int) = L
                · have hil : ((i : Int) == L) = true := by rw [beq_iff_eq]; exact h1
                  by_cases h2 : 0 ≤ torn
                  · have h3 : ¬ torn < s.size := fun h => hcond ⟨h1, h2, h⟩
                    clear hcond h1
                    go_wp2_with fail
                    go_region
                    go_wp2_with fail
                    go_roundw
                    case rel => exact ⟨i + 1, by omega, by go_num, HDn, HBn, HFn, hbn⟩
                    case measure => simp [intOf]; omega
                  · clear hcond h1
                    go_wp2_with fail
                    go_region
                    go_wp2_with fail
                    go_roundw
                    case rel => exact ⟨i + 1, by omega, by go_num, HDn, HBn, HFn, hbn⟩
                    case measure => simp [intOf]; omega
                · have hil : ((i : Int) == L) = false := by rw [beq_eq_false_iff_ne]; exact h1
                  clear hcond h1
                  go_wp2_with fail
                  go_region
                  go_wp2_with fail
                  go_roundw
                  case rel => exact ⟨i + 1, by omega, by go_num, HDn, HBn, HFn, hbn⟩
                  case measure => simp [intOf]; omega
            · simp only [if_neg ho] at hcp
              have hol : (o : Int) < D.vis.length := by omega
              clear ho
              by_cases hcond : (i : Int) = L ∧ 0 ≤ torn ∧ torn < s.size
              · obtain ⟨h1, h2, h3⟩ := hcond
                have hTx : s.extract 0 torn.toNat = T := by rw [← HT.out]; unfold cutW; rw [if_pos ⟨h1, h2, h3⟩]
                have hil : ((i : Int) == L) = true := by rw [beq_iff_eq]; exact h1
                obtain ⟨tt, rfl⟩ : ∃ tt : Nat, torn = tt := ⟨torn.toNat, by omega⟩
                rw [Int.toNat_natCast] at hTx
                clear h1
                go_wp2_with fail
                go_region
                go_wp2_with fail
                go_roundw
                case rel => exact ⟨i + 1, by omega, by go_num, HDn, HBn, HFn, hbn⟩
                case measure => simp [intOf]; omega
              · have hTx : s = T := by rw [← HT.out]; unfold cutW; rw [if_neg hcond]
                subst hTx
                by_cases h1 : (i : Int) = L
                · have hil : ((i : Int) == L) = true := by rw [beq_iff_eq]; exact h1
                  by_cases h2 : 0 ≤ torn
                  · have h3 : ¬ torn < s.size := fun h => hcond ⟨h1, h2, h⟩
                    clear hcond h1
                    go_wp2_with fail
                    go_region
                    go_wp2_with fail
                    go_roundw
                    case rel => exact ⟨i + 1, by omega, by go_num, HDn, HBn, HFn, hbn⟩
                    case measure => simp [intOf]; omega
                  · clear hcond h1
                    go_wp2_with fail
                    go_region
                    go_wp2_with fail
                    go_roundw
                    case rel => exact ⟨i + 1, by omega, by go_num, HDn, HBn, HFn, hbn⟩
                    case measure => simp [intOf]; omega
                · have hil : ((i : Int) == L) = false := by rw [beq_eq_false_iff_ne]; exact h1
                  clear hcond h1
                  go_wp2_with fail
                  go_region
                  go_wp2_with fail
                  go_roundw
                  case rel => exact ⟨i + 1, by omega, by go_num, HDn, HBn, HFn, hbn⟩
                  case measure => simp [intOf]; omega
    · have hjl' : (j : Int) < len := by omega
      obtain ⟨g, og, rfl, hg1, hg2, hg3⟩ : ∃ g off, oa = some ⟨g, off, none⟩ ∧ g < W.heap.size ∧ ¬ Foot b bd bv (.slice ov n cv) g ∧ ∀ i, i < len → W.cell? ⟨g, off + i, none⟩ = some (.int .i64 (ks i)) := by
        rcases HK.out with h0 | h0
        · omega
        · exact h0
      have hck : wr.cell? ⟨g, og + j, none⟩ = some (.int .i64 (ks j)) := (World.cell?_of_block (w := W) (HFr.out.block g hg1 (fun e => e))).trans (hg3 j (by omega))
      obtain ⟨hk1, hk2⟩ := HKS.out j
      obtain ⟨lk, hlk2⟩ : ∃ lk, lastK ks n j = lk := ⟨_, rfl⟩
      by_cases hin : 0 ≤ ks j ∧ ks j < n
      · obtain ⟨q, hq⟩ : ∃ q : Nat, ks j = (q : Int) := ⟨(ks j).toNat, by omega⟩
        have e1 : survL ks n (j + 1) = (survL ks n j).set q true := by rw [survL, if_pos hin, hq, Int.toNat_natCast]
        have e2 : lastK ks n (j + 1) = max lk (q : Int) := by rw [lastK, if_pos hin, hq, hlk2]
        rw [hlk2] at hlk ⊢
        rw [hq] at hck hin
        obtain ⟨hi1, hi2⟩ := hin
        have hcs := HBr.out.cell q
        rw [bcells_get _ q (by omega)] at hcs
        have hfs := HBr.out.frozen q
        have HB2 : Hid (Blk (wr.setCell ⟨bs, q, none⟩ (.bool true)) bs 4 (bcells (survL ks n (j + 1)))) := by
          show Blk _ _ _ _
          rw [e1, bcells_set]
          exact HBr.out.set q _
        have HF2 : Hid (Fr (fun _ => False) W (wr.setCell ⟨bs, q, none⟩ (.bool true))) := HFr.out.setCell ⟨bs, q, none⟩ _ (.inr (by show W.heap.size ≤ bs; rw [HBSZ.out]; exact Nat.le_refl _))
        have hmax : (if (lk : Int) < (q : Int) then (q : Int) else lk) = max lk q := by split <;> omega
        have E2 := Lib.hid e2
        clear e1 e2 hq hlk2 hg3 hsl
        go_wp2_with fail
        go_roundw
        case rel => exact ⟨j + 1, by omega, by go_num, by rw [E2.out], HB2, HF2, by simpa [World.setCell] using hbr⟩
        case measure => simp [intOf]; omega
      · have e1 : survL ks n (j + 1) = survL ks n j := by rw [survL, if_neg hin]
        have e2 : lastK ks n (j + 1) = lastK ks n j := by rw [lastK, if_neg hin]
        rw [hlk2] at e2
        rw [← e1] at HBr
        rw [hlk2]
        have E2 := Lib.hid e2
        clear e1 e2 hlk2 hg3 hsl
        by_cases h0 : 0 ≤ ks j
        · have h1 : ¬ ks j < n := by omega
          clear hin
          go_wp2_with fail
          go_roundw
          case rel => exact ⟨j + 1, by omega, by go_num, by rw [E2.out], HBr, HFr, hbr⟩
          case measure => simp [intOf]; omega
        · clear hin
          go_wp2_with fail
          go_roundw
          case rel => exact ⟨j + 1, by omega, by go_num, by rw [E2.out], HBr, HFr, hbr⟩
          case measure => simp [intOf]; omega
end Go.Proofs.Ytdcnddbkjdbbbaa
