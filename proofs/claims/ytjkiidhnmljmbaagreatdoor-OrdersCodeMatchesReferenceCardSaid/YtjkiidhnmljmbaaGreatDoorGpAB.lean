/-
  Orders in plain words: the encoding of a valid order is read back.
  Orders in plain words: the encoding of a valid message is read back, and no beginning of it is read; what is read is an encoding.
-/
import Derived.Test.YtjkiidhnmljmbaaGreatDoorGoUV
import Derived.Test.YtjkiidhnmljmbaaGreatDoorGoY
import Derived.Test.YtjkiidhnmljmbaaGreatDoorGoW
set_option linter.unusedVariables false
set_option linter.unusedSimpArgs false
namespace Go.Proofs.YtjkiidhnmljmbaaGreatDoor
open Go.RowKit Onair
theorem intR_shift_none (p l : List UInt8) (h : decI 9 0 0 l = none) : intR (p ++ l) p.length = (0, 0, 10) := intR_none (by simp) (by rw [List.drop_left]; exact h)
theorem intR_pre {v : Int} (h : okInt v = true) (p t : List UInt8) (k : Nat) (hk : k < (putL v).length) : (intR (p ++ (putL v ++ t).take k) p.length).2.2 ≠ 0 := by
  have e : (putL v ++ t).take k = (putL v).take k := by rw [List.take_append_of_le_length (by omega)]
  rw [e, intR_shift_none p _ (dec_trunc v h k hk)]
  decide
theorem readN_pre : ∀ (vs : List Int) (p t : List UInt8) (k : Nat), (∀ v ∈ vs, okInt v = true) → readN (p ++ (encI vs ++ t).take k) vs.length p.length = if (encI vs).length ≤ k then some (vs, (p.length : Int) + (encI vs).length) else none
  | [], p, t, k, h => by
    rw [if_pos (by simp [encI])]
    simp [readN, encI]
  | v :: vs, p, t, k, h => by
    have hv := h v (List.mem_cons_self ..)
    have hvs : ∀ x ∈ vs, okInt x = true := fun x hx => h x (List.mem_cons_of_mem _ hx)
    rw [encI_cons, List.append_assoc, List.length_append, List.length_cons, readN]
    by_cases hk : k < (putL v).length
    · rw [if_neg (intR_pre hv p _ k hk), if_neg (by omega)]
    · have e : (putL v ++ (encI vs ++ t)).take k = putL v ++ (encI vs ++ t).take (k - (putL v).length) := by
        rw [List.take_append, List.take_of_length_le (by omega)]
      rw [e, ← List.append_assoc, intR_put p _ v hv, if_pos rfl]
      have ih := readN_pre vs (p ++ putL v) t (k - (putL v).length) hvs
      rw [List.length_append, Int.natCast_add] at ih
      rw [ih]
      by_cases h2 : (encI vs).length ≤ k - (putL v).length
      · rw [if_pos h2, if_pos (by omega)]
        simp
        omega
      · rw [if_neg h2, if_neg (by omega)]
        rfl
theorem readN_put (vs : List Int) (p q : List UInt8) (h : ∀ v ∈ vs, okInt v = true) : readN (p ++ (encI vs ++ q)) vs.length p.length = some (vs, (p.length : Int) + (encI vs).length) := by
  have := readN_pre vs p q (encI vs ++ q).length h
  rw [List.take_length, if_pos (by simp)] at this
  exact this
theorem altsB_len : ∀ (l : List (Int × Int)) (r : Int), altsB r l = true → 0 ≤ r → r ≤ 7 → (l.length : Int) + r ≤ 7
  | [], r, _, _, h => by simp; omega
  | p :: l, r, h, h0, h7 => by
    simp only [altsB, Bool.and_eq_true, decide_eq_true_eq] at h
    have := altsB_len l p.1 h.2.2.2 (by omega) h.2.1
    simp only [List.length_cons]
    omega
theorem blank_iff (o : GOd) : o.blankB = true ↔ o.e = 0 ∧ o.n = 0 ∧ o.cl = ⟨0, 0, 0, 0, 0, 0, 0, 0⟩ ∧ (o.qid = 0 ∧ o.qf = 0 ∧ o.qt = 0 ∧ o.qp = 0 ∧ o.txt = ⟨#[]⟩) ∧ o.nid = 0 ∧ o.item = 0 ∧ o.frs = 0 ∧ o.ear = 0 ∧ o.lat = 0 ∧ o.book = 0 ∧ o.an = 0 := by
  unfold GOd.blankB cueEq
  simp only [Bool.and_eq_true, decide_eq_true_eq, ClD.eqB_iff, beq_iff_eq]
  constructor
  · rintro ⟨⟨⟨⟨⟨⟨⟨⟨⟨⟨h1, h2⟩, h3⟩, h4, h5, h6, h7, h8⟩, h9⟩, h10⟩, h11⟩, h12⟩, h13⟩, h14⟩, h15⟩
    exact ⟨h1, h2, h3, ⟨h4, h5, h6, h7, h8⟩, h9, h10, h11, h12, h13, h14, h15⟩
  · rintro ⟨h1, h2, h3, ⟨h4, h5, h6, h7, h8⟩, h9, h10, h11, h12, h13, h14, h15⟩
    exact ⟨⟨⟨⟨⟨⟨⟨⟨⟨⟨h1, h2⟩, h3⟩, h4, h5, h6, h7, h8⟩, h9⟩, h10⟩, h11⟩, h12⟩, h13⟩, h14⟩, h15⟩
/-- The numbers of a valid clause can be encoded. -/
theorem clause_ok (c : ClD) (h : c.ok = true) : ∀ v ∈ [c.kind, c.item, c.frm, c.til, c.regs, c.n, c.a, c.b], okInt v = true := by
  unfold ClD.ok at h
  simp only [Bool.and_eq_true] at h
  obtain ⟨hu, hr⟩ := h
  have he := (ClD.eqB_iff _ _).1 hu
  have key : ((-4611686018427387903 ≤ c.kind ∧ c.kind ≤ 4611686018427387903) ∧ (-4611686018427387903 ≤ c.item ∧ c.item ≤ 4611686018427387903) ∧ (-4611686018427387903 ≤ c.frm ∧ c.frm ≤ 4611686018427387903) ∧ (-4611686018427387903 ≤ c.til ∧ c.til ≤ 4611686018427387903) ∧ (-4611686018427387903 ≤ c.regs ∧ c.regs ≤ 4611686018427387903) ∧ (-4611686018427387903 ≤ c.n ∧ c.n ≤ 4611686018427387903) ∧ (-4611686018427387903 ≤ c.a ∧ c.a ≤ 4611686018427387903) ∧ (-4611686018427387903 ≤ c.b ∧ c.b ≤ 4611686018427387903)) := by
    obtain ⟨kind, item, frm, til, regs, n, a, b⟩ := c
    unfold ClD.used at he
    simp only at he hr ⊢
    split at hr
    · rename_i hk
      rw [if_pos hk] at he
      simp only [ClD.mk.injEq] at he
      simp only [decide_eq_true_eq] at hr
      omega
    rename_i h1
    rw [if_neg h1] at he
    split at hr
    · rename_i hk
      rw [if_pos (by omega)] at he
      simp only [ClD.mk.injEq] at he
      simp only [decide_eq_true_eq] at hr
      omega
    rename_i h3
    split at hr
    · rename_i hk
      rw [if_pos (by omega)] at he
      simp only [ClD.mk.injEq] at he
      simp only [decide_eq_true_eq] at hr
      omega
    rename_i h4
    rw [if_neg (by omega)] at he
    split at hr
    · rename_i hk
      rw [if_pos hk] at he
      simp only [ClD.mk.injEq] at he
      simp only [decide_eq_true_eq] at hr
      omega
    rename_i h5
    rw [if_neg h5] at he
    split at hr
    · rename_i hk
      rw [if_pos hk] at he
      simp only [ClD.mk.injEq] at he
      simp only [decide_eq_true_eq] at hr
      omega
    · cases hr
  intro v hv
  rw [okInt_iff]
  simp only [List.mem_cons, List.not_mem_nil, or_false] at hv
  rcases hv with rfl | rfl | rfl | rfl | rfl | rfl | rfl | rfl <;> omega
end Go.Proofs.YtjkiidhnmljmbaaGreatDoor
namespace Go.Proofs.YtjkiidhnmljmbaaGreatDoor
open Go.RowKit Onair
theorem fits_len (l : List UInt8) (h : Cp.fitsB l = true) : l.length ≤ 200 := by
  unfold Cp.fitsB at h
  simp only [Bool.and_eq_true, decide_eq_true_eq] at h
  omega
theorem ba_eta (t : ByteArray) : (⟨t.data.toList.toArray⟩ : ByteArray) = t := by cases t; simp
/-- Of a valid order: its head, its numbers, its alternatives, its text. -/
theorem ok_facts (o : GOd) (al : List (Int × Int)) (hn : al.length = o.an) (h : okB o al = true) :
    (∀ v ∈ [o.s, o.ch, o.f, o.k], okInt v = true) ∧ (∀ v ∈ numsG o, okInt v = true) ∧ (∀ v ∈ altI al, okInt v = true) ∧ al.length ≤ 7 ∧ o.txt.size ≤ 200 ∧ (o.k ≠ 3 → al = []) ∧ (o.k ≠ 5 → o.txt = ⟨#[]⟩) ∧
    o.withA none 0 = (if o.k = 3 then ((o4 [o.s, o.ch, o.f, o.k]).withN (numsG o)).withL al.length else if o.k = 5 then ((o4 [o.s, o.ch, o.f, o.k]).withN (numsG o)).withT o.txt.data.toList else (o4 [o.s, o.ch, o.f, o.k]).withN (numsG o)) := by
  have hk := okB_kind h
  obtain ⟨s, ch, f, k, e, n, nid, item, frs, ear, lat, book, ao, an, ac, cl, qid, qf, qt, qp, txt⟩ := o
  unfold okB headB at h
  simp only [Bool.and_eq_true, decide_eq_true_eq] at h hk hn
  obtain ⟨hh, h⟩ := h
  have hhd : ∀ v ∈ [s, ch, f, k], okInt v = true := by
    intro v hv
    rw [okInt_iff]
    simp only [List.mem_cons, List.not_mem_nil, or_false] at hv
    rcases hv with rfl | rfl | rfl | rfl <;> omega
  have nil0 : ∀ v ∈ altI [], okInt v = true := fun v hv => by simp [altI] at hv
  rcases (show k = 1 ∨ k = 2 ∨ k = 3 ∨ k = 4 ∨ k = 5 from by omega) with rfl | rfl | rfl | rfl | rfl
  · simp only [if_true] at h
    simp only [Bool.and_eq_true, decide_eq_true_eq, idB, blank_iff, GOd.noN] at h
    obtain ⟨h1, h2, -, -, rfl, ⟨rfl, rfl, rfl, rfl, rfl⟩, rfl, rfl, rfl, rfl, rfl, rfl, rfl⟩ := h
    obtain rfl : al = [] := List.eq_nil_of_length_eq_zero hn
    refine ⟨hhd, ?_, nil0, by decide, Nat.zero_le _, fun _ => rfl, fun _ => rfl, rfl⟩
    intro v hv
    simp only [numsG, if_true, List.mem_cons, List.not_mem_nil, or_false] at hv
    rw [okInt_iff]
    rcases hv with rfl | rfl <;> omega
  · simp only [if_neg (show ¬ (2 : Int) = 1 by decide), if_true] at h
    simp only [Bool.and_eq_true, decide_eq_true_eq, idB, blank_iff, GOd.noE] at h
    obtain ⟨h2, -, rfl, rfl, ⟨rfl, rfl, rfl, rfl, rfl⟩, rfl, rfl, rfl, rfl, rfl, rfl, rfl⟩ := h
    obtain rfl : al = [] := List.eq_nil_of_length_eq_zero hn
    refine ⟨hhd, ?_, nil0, by decide, Nat.zero_le _, fun _ => rfl, fun _ => rfl, rfl⟩
    intro v hv
    simp only [numsG, if_neg (show ¬ (2 : Int) = 1 by decide), if_true, List.mem_cons, List.not_mem_nil, or_false] at hv
    rw [okInt_iff]
    rcases hv with rfl
    omega
  · simp only [if_neg (show ¬ (3 : Int) = 1 by decide), if_neg (show ¬ (3 : Int) = 2 by decide), if_true] at h
    simp only [Bool.and_eq_true, decide_eq_true_eq, insB, blank_iff, GOd.noW] at h
    obtain ⟨⟨h1, h2⟩, rfl, rfl, rfl, ⟨rfl, rfl, rfl, rfl, rfl⟩, -⟩ := h
    have hal := altsB_len al 0 h2 (by decide) (by decide)
    subst hn
    refine ⟨hhd, ?_, ?_, by omega, Nat.zero_le _, fun h => absurd rfl h, fun _ => rfl, rfl⟩
    · intro v hv
      simp only [numsG, if_neg (show ¬ (3 : Int) = 1 by decide), if_neg (show ¬ (3 : Int) = 2 by decide), if_true, List.mem_cons, List.not_mem_nil, or_false] at hv
      rw [okInt_iff]
      rcases hv with rfl | rfl | rfl | rfl | rfl | rfl <;> omega
    · have gen : ∀ (l : List (Int × Int)) (r : Int), 0 ≤ r → altsB r l = true → ∀ v ∈ altI l, okInt v = true := by
        intro l
        induction l with
        | nil => intro r _ _ v hv; simp [altI] at hv
        | cons p l ih =>
          intro r h0 ha v hv
          simp only [altsB, Bool.and_eq_true, decide_eq_true_eq, idB] at ha
          simp only [altI, List.flatMap_cons, List.mem_append, List.mem_cons, List.not_mem_nil, or_false] at hv
          rcases hv with (rfl | rfl) | hv
          · rw [okInt_iff]; omega
          · rw [okInt_iff]; omega
          · exact ih p.1 (by omega) ha.2.2.2 v hv
      exact gen al 0 (by decide) h2
  · simp only [if_neg (show ¬ (4 : Int) = 1 by decide), if_neg (show ¬ (4 : Int) = 2 by decide), if_neg (show ¬ (4 : Int) = 3 by decide), if_true] at h
    simp only [Bool.and_eq_true, blank_iff, GOd.noC] at h
    obtain ⟨h1, rfl, rfl, -, ⟨rfl, rfl, rfl, rfl, rfl⟩, rfl, rfl, rfl, rfl, rfl, rfl, rfl⟩ := h
    obtain rfl : al = [] := List.eq_nil_of_length_eq_zero hn
    exact ⟨hhd, fun v hv => clause_ok cl h1 v hv, nil0, by decide, Nat.zero_le _, fun _ => rfl, fun _ => rfl, rfl⟩
  · simp only [if_neg (show ¬ (5 : Int) = 1 by decide), if_neg (show ¬ (5 : Int) = 2 by decide), if_neg (show ¬ (5 : Int) = 3 by decide), if_neg (show ¬ (5 : Int) = 4 by decide), if_true] at h
    simp only [Bool.and_eq_true, blank_iff, GOd.noQ] at h
    obtain ⟨h1, rfl, rfl, rfl, -, rfl, rfl, rfl, rfl, rfl, rfl, rfl⟩ := h
    obtain rfl : al = [] := List.eq_nil_of_length_eq_zero hn
    unfold Cp.validB at h1
    simp only [Bool.and_eq_true, decide_eq_true_eq] at h1
    have hq : (-4611686018427387903 ≤ qid ∧ qid ≤ 4611686018427387903) ∧ (-4611686018427387903 ≤ qf ∧ qf ≤ 4611686018427387903) ∧ (-4611686018427387903 ≤ qt ∧ qt ≤ 4611686018427387903) ∧ (-4611686018427387903 ≤ qp ∧ qp ≤ 4611686018427387903) ∧ txt.size ≤ 200 := by
      obtain ⟨h1, h2⟩ := h1
      split at h2
      · rename_i hz
        simp only [Bool.and_eq_true, decide_eq_true_eq] at h2
        obtain ⟨⟨a1, a2⟩, rfl⟩ := h2
        refine ⟨by omega, by omega, by omega, by omega, by decide⟩
      · simp only [Bool.and_eq_true, decide_eq_true_eq] at h2
        have := fits_len _ h2.2
        rw [blen] at this
        omega
    refine ⟨hhd, ?_, nil0, by decide, hq.2.2.2.2, fun _ => rfl, fun h => absurd rfl h, ?_⟩
    · intro v hv
      simp only [numsG, if_neg (show ¬ (5 : Int) = 1 by decide), if_neg (show ¬ (5 : Int) = 2 by decide), if_neg (show ¬ (5 : Int) = 3 by decide), if_neg (show ¬ (5 : Int) = 4 by decide), if_true, List.mem_cons, List.not_mem_nil, or_false] at hv
      rw [okInt_iff]
      rcases hv with rfl | rfl | rfl | rfl <;> omega
    · show _ = GOd.withT _ _
      unfold GOd.withT
      rw [ba_eta]
      rfl
theorem encG_small (o : GOd) (al : List (Int × Int)) (hn : al.length = o.an) (h : okB o al = true) : (encG o al).length ≤ 65536 := by
  obtain ⟨_, _, _, h7, ht, _, _, _⟩ := ok_facts o al hn h
  have h1 := encI_len [o.s, o.ch, o.f, o.k]
  have h2 := encI_len (numsG o)
  rw [numsG_len] at h2
  have h3 := ofsK_len o.k
  have h4 : ([o.s, o.ch, o.f, o.k] : List Int).length = 4 := rfl
  have h5 : (tailG o al).length ≤ 9 + 126 + 209 := by
    unfold tailG
    split
    · have h6 := altI_len al al.length
      rw [List.take_length] at h6
      have h7 := encI_len [(al.length : Int)]
      rw [List.length_append]
      simp only [List.length_cons, List.length_nil] at h7
      omega
    · split
      · have := putSL_lenO o.txt.data.toList (by rw [blen]; omega)
        rw [blen] at this
        omega
      · simp
  unfold encG
  rw [List.length_append, List.length_append]
  omega
theorem altI_length : ∀ (l : List (Int × Int)), (altI l).length = 2 * l.length
  | [] => rfl
  | p :: l => by
    have := altI_length l
    simp only [altI, List.flatMap_cons, List.length_append, List.length_cons, List.length_nil] at *
    omega
theorem pairs_altI : ∀ (l : List (Int × Int)), pairsL (altI l) = l
  | [] => rfl
  | p :: l => by
    have := pairs_altI l
    simp only [altI, List.flatMap_cons, List.cons_append, List.nil_append, pairsL] at *
    rw [this]
/-- The encoding of a valid order is read back. -/
theorem ordR_enc (o : GOd) (al : List (Int × Int)) (hn : al.length = o.an) (h : okB o al = true) : ordR (encG o al) = .ok (o.withA none 0) al := by
  obtain ⟨hhd, hnm, haI, h7, ht, hal0, htx, hw⟩ := ok_facts o al hn h
  have hk := okB_kind h
  have r1 := readN_put [o.s, o.ch, o.f, o.k] [] (encI (numsG o) ++ tailG o al) hhd
  have e1 : ([] : List UInt8) ++ (encI [o.s, o.ch, o.f, o.k] ++ (encI (numsG o) ++ tailG o al)) = encG o al := by rw [List.nil_append, ← List.append_assoc]; rfl
  rw [e1] at r1
  have r1' : readN (encG o al) 4 0 = some ([o.s, o.ch, o.f, o.k], ((encI [o.s, o.ch, o.f, o.k]).length : Int)) := by simpa using r1
  rw [ordR_some r1']
  have hko : (o4 [o.s, o.ch, o.f, o.k]).k = o.k := rfl
  have r2 := readN_put (numsG o) (encI [o.s, o.ch, o.f, o.k]) (tailG o al) hnm
  have e2 : encI [o.s, o.ch, o.f, o.k] ++ (encI (numsG o) ++ tailG o al) = encG o al := by rw [← List.append_assoc]; rfl
  rw [e2, numsG_len] at r2
  rw [ordB_some (by rw [hko]; exact hk) (by rw [hko]; exact r2)]
  have hkw : ((o4 [o.s, o.ch, o.f, o.k]).withN (numsG o)).k = o.k := withN_k _ _
  have hP : (encI [o.s, o.ch, o.f, o.k]).length + (encI (numsG o)).length = (encI [o.s, o.ch, o.f, o.k] ++ encI (numsG o)).length := by rw [List.length_append]
  rw [← Int.natCast_add, hP]
  obtain ⟨PL, hPL⟩ : ∃ PL, encI [o.s, o.ch, o.f, o.k] ++ encI (numsG o) = PL := ⟨_, rfl⟩
  have e3 : PL ++ tailG o al = encG o al := by rw [← hPL]; rfl
  rw [hPL]
  by_cases k3 : o.k = 3
  · rw [if_pos k3] at hw
    have htl : tailG o al = putL (al.length : Int) ++ encI (altI al) := by unfold tailG; rw [if_pos k3, encI_one]
    have hok := len_ok al.length (by omega)
    have r3 := intR_put PL (encI (altI al)) al.length hok
    have e4 : PL ++ putL (al.length : Int) ++ encI (altI al) = encG o al := by rw [← e3, htl, List.append_assoc]
    rw [e4] at r3
    have r4 := readN_put (altI al) (PL ++ putL (al.length : Int)) [] haI
    rw [List.append_nil, e4] at r4
    have hlen := altI_length al
    rw [hlen] at r4
    have hpr := pairs_altI al
    rw [ordC_3s (vs := altI al) (b := ((PL ++ putL (al.length : Int)).length : Int) + (encI (altI al)).length) (by rw [hkw]; exact k3) (by rw [r3]) (by rw [r3]; simp only; omega) (by rw [r3]; simp only [Int.toNat_natCast]; rw [← Int.natCast_add, ← List.length_append]; exact r4), r3]
    simp only [Int.toNat_natCast]
    rw [finO_ok (by rw [← e4]; simp only [List.length_append]; omega), hpr, ← hw]
  · have hal : al = [] := hal0 k3
    by_cases k5 : o.k = 5
    · rw [if_neg k3, if_pos k5] at hw
      have htl : tailG o al = putSL o.txt.data.toList := by unfold tailG; rw [if_neg k3, if_pos k5]
      have r3 := strR_put PL [] o.txt.data.toList (by rw [blen]; omega)
      have e4 : PL ++ putSL o.txt.data.toList ++ [] = encG o al := by rw [List.append_nil, ← e3, htl]
      rw [e4] at r3
      rw [ordC_5s (by rw [hkw]; exact k5) (by rw [r3]), r3]
      simp only
      rw [finO_ok (by rw [← e4]; simp only [List.length_append, List.length_nil]; omega), hal, ← hw]
    · rw [if_neg k3, if_neg k5] at hw
      have htl : tailG o al = [] := by unfold tailG; rw [if_neg k3, if_neg k5]
      rw [ordC_x (by rw [hkw]; exact k3) (by rw [hkw]; exact k5), finO_ok (by rw [← e3, htl, List.append_nil]), hal, ← hw]
theorem decR_enc (o : GOd) (al : List (Int × Int)) (hn : al.length = o.an) (h : okB o al = true) : decR (encG o al) = .ok (o.withA none 0) al := by
  unfold decR
  rw [ordR_enc o al hn h]
  dsimp only
  rw [if_pos (by rw [okB_withA]; exact h)]
theorem zero_iff (o : GOd) : o.zeroB = true ↔ o.withA none 0 = zeroO ∧ o.an = 0 := by
  obtain ⟨s, ch, f, k, e, n, nid, item, frs, ear, lat, book, ao, an, ac, cl, qid, qf, qt, qp, txt⟩ := o
  unfold GOd.zeroB cueEq
  simp only [Bool.and_eq_true, decide_eq_true_eq, ClD.eqB_iff, beq_iff_eq]
  constructor
  · rintro ⟨⟨⟨⟨⟨⟨⟨rfl, rfl⟩, rfl⟩, rfl⟩, rfl⟩, rfl⟩, rfl⟩, ⟨rfl, rfl, rfl, rfl, rfl, rfl⟩, rfl, rfl, rfl, rfl, rfl, rfl⟩
    exact ⟨rfl, rfl⟩
  · rintro ⟨h, h2⟩
    subst h2
    unfold GOd.withA zeroO o4 at h
    simp only [GOd.mk.injEq] at h
    obtain ⟨rfl, rfl, rfl, rfl, rfl, rfl, rfl, rfl, rfl, rfl, rfl, rfl, -, -, -, rfl, rfl, rfl, rfl, rfl, rfl⟩ := h
    exact ⟨⟨⟨⟨⟨⟨⟨rfl, rfl⟩, rfl⟩, rfl⟩, rfl⟩, rfl⟩, rfl⟩, ⟨rfl, rfl, rfl, rfl, rfl, rfl⟩, rfl, rfl, rfl, rfl, rfl, rfl⟩
/-- Of a valid message. -/
theorem okM_facts (m : MOd) (al : List (Int × Int)) (hn : al.length = m.o.an) (h : okM m al = true) :
    (∀ v ∈ [m.kd, m.tn, m.sq, m.fr, m.n], okInt v = true) ∧ (1 ≤ m.kd ∧ m.kd ≤ 3) ∧ (m.kd = 1 → okB m.o al = true) ∧ (m.kd ≠ 1 → m.o.withA none 0 = zeroO ∧ al = []) := by
  have hk := okM_kind h
  have ho : m.kd = 1 → okB m.o al = true := fun e => (okM_ord h e).1
  unfold okM at h
  simp only [Bool.and_eq_true, decide_eq_true_eq] at h
  obtain ⟨ht, h⟩ := h
  rcases hk with k | k | k
  · rw [if_pos k] at h
    simp only [Bool.and_eq_true, decide_eq_true_eq, beq_iff_eq] at h
    refine ⟨?_, by omega, ho, fun e => absurd k e⟩
    intro v hv
    rw [okInt_iff]
    simp only [List.mem_cons, List.not_mem_nil, or_false] at hv
    rcases hv with rfl | rfl | rfl | rfl | rfl <;> omega
  · rw [if_neg (by omega), if_pos k] at h
    simp only [Bool.and_eq_true, decide_eq_true_eq, beq_iff_eq, zero_iff] at h
    refine ⟨?_, by omega, ho, fun _ => ⟨h.2.2.2.2.1, List.eq_nil_of_length_eq_zero (hn.trans h.2.2.2.2.2)⟩⟩
    intro v hv
    rw [okInt_iff]
    simp only [List.mem_cons, List.not_mem_nil, or_false] at hv
    rcases hv with rfl | rfl | rfl | rfl | rfl <;> omega
  · rw [if_neg (by omega), if_neg (by omega), if_pos k] at h
    simp only [Bool.and_eq_true, decide_eq_true_eq, beq_iff_eq, zero_iff] at h
    refine ⟨?_, by omega, ho, fun _ => ⟨h.2.2.2.2.2.1, List.eq_nil_of_length_eq_zero (hn.trans h.2.2.2.2.2.2)⟩⟩
    intro v hv
    rw [okInt_iff]
    simp only [List.mem_cons, List.not_mem_nil, or_false] at hv
    rcases hv with rfl | rfl | rfl | rfl | rfl <;> omega
theorem okM_withA (m : MOd) (oa : Option Addr) (ac : Nat) (al : List (Int × Int)) : okM (m.withA oa ac) al = okM m al := rfl
theorem encM_split (m : MOd) (al : List (Int × Int)) : encM m al = putL m.kd ++ (encI [m.tn, m.sq, m.fr, m.n] ++ (if m.kd = 1 then putSL (encG m.o al) else [])) := by
  rw [encM, encI_cons, List.append_assoc]
/-- The encoding of a valid message is read back. -/
theorem msgR_enc (m : MOd) (al : List (Int × Int)) (hn : al.length = m.o.an) (h : okM m al = true) : msgR (encM m al) = .ok (m.withA none 0) al := by
  obtain ⟨hv, hk, ho, hz⟩ := okM_facts m al hn h
  have hsp := encM_split m al
  have r1 := intR_put [] (encI [m.tn, m.sq, m.fr, m.n] ++ (if m.kd = 1 then putSL (encG m.o al) else [])) m.kd (hv _ (by simp))
  rw [List.nil_append, ← hsp] at r1
  have r1' : intR (encM m al) 0 = (m.kd, ((putL m.kd).length : Int), 0) := by simpa using r1
  have r2 := readN_put [m.tn, m.sq, m.fr, m.n] (putL m.kd) (if m.kd = 1 then putSL (encG m.o al) else []) (fun v h => hv v (List.mem_cons_of_mem _ h))
  rw [← hsp] at r2
  rw [msgR_some (by rw [r1']) (by rw [r1']; exact hk) (by rw [r1']; exact r2), r1']
  simp only
  obtain ⟨PL, hPL⟩ : ∃ PL, putL m.kd ++ encI [m.tn, m.sq, m.fr, m.n] = PL := ⟨_, rfl⟩
  have hpl : ((putL m.kd).length : Int) + ((encI [m.tn, m.sq, m.fr, m.n]).length : Int) = (PL.length : Int) := by rw [← hPL, List.length_append]; omega
  have hok : okR (m5 m.kd [m.tn, m.sq, m.fr, m.n] (m.o.withA none 0)) al = .ok (m.withA none 0) al := by
    unfold okR
    rw [show m5 m.kd [m.tn, m.sq, m.fr, m.n] (m.o.withA none 0) = m.withA none 0 from rfl, okM_withA, if_pos h]
  rw [hpl]
  by_cases k1 : m.kd = 1
  · rw [if_pos k1] at hsp
    have e3 : PL ++ putSL (encG m.o al) ++ [] = encM m al := by rw [hsp, List.append_nil, ← hPL, List.append_assoc]
    have r3 := strR_put PL [] (encG m.o al) (encG_small m.o al hn (ho k1))
    rw [e3] at r3
    rw [msgT_1s k1 (by rw [r3]), r3]
    simp only
    rw [msgF_1 (by rw [← e3]; simp only [List.length_append, List.length_nil]; omega) k1, decR_enc m.o al hn (ho k1)]
    exact hok
  · rw [if_neg k1, List.append_nil] at hsp
    rw [msgT_x k1, msgF_x (by rw [hsp, hPL]) k1]
    obtain ⟨h1, h2⟩ := hz k1
    rw [h2] at hok ⊢
    rw [h1] at hok
    exact hok
/-- What is read is the encoding of a valid message. -/
theorem msgR_back {l : List UInt8} {m : MOd} {al : List (Int × Int)} (h : msgR l = .ok m al) : encM m al = l ∧ okM m al = true ∧ m.o.an = al.length ∧ m.o.ao = none ∧ m.o.ac = 0 ∧ m.o.txt.size ≤ 65536 ∧ al.length ≤ 7 := by
  unfold msgR at h
  by_cases h0 : (intR l 0).2.2 = 0
  · rw [if_pos h0] at h
    by_cases hk : 1 ≤ (intR l 0).1 ∧ (intR l 0).1 ≤ 3
    · rw [if_pos hk] at h
      cases hr : readN l 4 (intR l 0).2.1 with
      | none => rw [hr] at h; cases h
      | some r =>
        obtain ⟨vs, a⟩ := r
        rw [hr] at h
        dsimp only at h
        have hvl := readN_len hr
        obtain ⟨g1, g2, g3⟩ := intR_back l 0 h0
        obtain ⟨kd, hkd⟩ : ∃ kd, (intR l 0).1 = kd := ⟨_, rfl⟩
        have h0c : ((0 : Nat) : Int) = 0 := rfl
        rw [h0c, hkd] at g1 g2 g3
        rw [hkd] at hk h
        rw [g2, show (0 : Int) + ((putL kd).length : Int) = ((putL kd).length : Int) by omega] at hr
        obtain ⟨-, e2, p2⟩ := readN_back 4 _ vs a hr
        have hp : putL kd ++ encI vs <+: l.drop 0 := pre_app (pre_of_take g3) (by rw [Nat.zero_add]; exact p2)
        have hm5 : ∀ o al, encM (m5 kd vs o) al = putL kd ++ encI vs ++ (if kd = 1 then putSL (encG o al) else []) := by
          intro o al
          match vs, hvl with
          | [b, c, d, e], _ => rw [encM_split, ← List.append_assoc]; rfl
        have okr : ∀ o al m al', okR (m5 kd vs o) al = .ok m al' → m = m5 kd vs o ∧ al' = al ∧ okM m al' = true := by
          intro o al m al' hh
          unfold okR at hh
          by_cases hb : okM (m5 kd vs o) al = true
          · rw [if_pos hb] at hh; cases hh; exact ⟨rfl, rfl, hb⟩
          · rw [if_neg hb] at hh; cases hh
        unfold msgT at h
        by_cases k1 : kd = 1
        · rw [if_pos k1] at h
          by_cases hs : (strR l a).2.2 = 0
          · rw [if_pos hs] at h
            unfold msgF at h
            by_cases hf : (strR l a).2.1 = (l.length : Int)
            · rw [if_pos hf, if_pos k1] at h
              rw [e2, ← Int.natCast_add] at hs hf h
              obtain ⟨s1, s2, s3, s4⟩ := strR_back l _ hs
              obtain ⟨t, ht⟩ : ∃ t, (strR l ((putL kd).length + (encI vs).length : Nat)).1 = t := ⟨_, rfl⟩
              rw [ht] at s1 s2 s3 h
              unfold msgO at h
              cases hd : decR t with
              | wire => rw [hd] at h; cases h
              | bad => rw [hd] at h; cases h
              | ok o al2 =>
                rw [hd] at h
                dsimp only at h
                obtain ⟨rfl, rfl, hok⟩ := okr _ _ _ _ h
                obtain ⟨hor, hob⟩ := decR_back hd
                obtain ⟨b1, _, b3, b4, b5, b6, b7⟩ := ordR_back hor
                refine ⟨?_, hok, b4, b5, b6, b7, b3⟩
                rw [hm5, if_pos k1, b1]
                refine whole (pre_app hp ?_) ?_
                · rw [Nat.zero_add, List.length_append]
                  exact pre_of_take s3
                · rw [← hf, s2]
                  simp only [List.length_append]
                  omega
            · rw [if_neg hf] at h; cases h
          · rw [if_neg hs] at h; cases h
        · rw [if_neg k1] at h
          unfold msgF at h
          by_cases hf : a = (l.length : Int)
          · rw [if_pos hf, if_neg k1] at h
            obtain ⟨rfl, rfl, hok⟩ := okr _ _ _ _ h
            refine ⟨?_, hok, rfl, rfl, rfl, Nat.zero_le _, by decide⟩
            rw [hm5, if_neg k1, List.append_nil]
            refine whole hp ?_
            rw [← hf, e2]
            simp only [List.length_append]
            omega
          · rw [if_neg hf] at h; cases h
    · rw [if_neg hk] at h; cases h
  · rw [if_neg h0] at h; cases h
theorem sameOB_iff (o p : GOd) (al bl : List (Int × Int)) (h1 : al.length = o.an) (h2 : bl.length = p.an) : sameOB o al p bl = true ↔ (o.withA none 0 = p.withA none 0 ∧ al = bl) := by
  obtain ⟨s, ch, f, k, e, n, nid, item, frs, ear, lat, book, ao, an, ac, cl, qid, qf, qt, qp, txt⟩ := o
  obtain ⟨s', ch', f', k', e', n', nid', item', frs', ear', lat', book', ao', an', ac', cl', qid', qf', qt', qp', txt'⟩ := p
  unfold sameOB sameE cueEq GOd.withA
  simp only [Bool.and_eq_true, decide_eq_true_eq, ClD.eqB_iff, beq_iff_eq, GOd.mk.injEq] at *
  constructor
  · rintro ⟨⟨rfl, rfl, rfl, rfl, rfl, rfl, rfl⟩, rfl, rfl, rfl, rfl, rfl, rfl, rfl, rfl, rfl, rfl, rfl, rfl⟩
    exact ⟨⟨rfl, rfl, rfl, rfl, rfl, rfl, rfl, rfl, rfl, rfl, rfl, rfl, trivial, h1.symm.trans h2, trivial, rfl, rfl, rfl, rfl, rfl, rfl⟩, rfl⟩
  · rintro ⟨⟨rfl, rfl, rfl, rfl, rfl, rfl, rfl, rfl, rfl, rfl, rfl, rfl, -, -, -, rfl, rfl, rfl, rfl, rfl, rfl⟩, rfl⟩
    exact ⟨⟨rfl, rfl, rfl, rfl, rfl, rfl, rfl⟩, rfl, rfl, rfl, rfl, rfl, rfl, rfl, rfl, rfl, rfl, rfl, rfl⟩
theorem sameMB_iff (m k : MOd) (al bl : List (Int × Int)) (h1 : al.length = m.o.an) (h2 : bl.length = k.o.an) : sameMB m al k bl = true ↔ (m.withA none 0 = k.withA none 0 ∧ al = bl) := by
  obtain ⟨kd, tn, sq, fr, n, o⟩ := m
  obtain ⟨kd', tn', sq', fr', n', o'⟩ := k
  unfold sameMB MOd.withA
  simp only [Bool.and_eq_true, beq_iff_eq, MOd.mk.injEq]
  rw [sameOB_iff o o' al bl h1 h2]
  constructor
  · rintro ⟨⟨h, rfl⟩, rfl, rfl, rfl, rfl, rfl⟩
    exact ⟨⟨rfl, rfl, rfl, rfl, rfl, h⟩, rfl⟩
  · rintro ⟨⟨rfl, rfl, rfl, rfl, rfl, h⟩, rfl⟩
    exact ⟨⟨h, rfl⟩, rfl, rfl, rfl, rfl, rfl⟩
end Go.Proofs.YtjkiidhnmljmbaaGreatDoor
