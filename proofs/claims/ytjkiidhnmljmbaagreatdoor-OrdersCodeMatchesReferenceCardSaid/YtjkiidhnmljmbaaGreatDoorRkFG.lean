/-
  The reference's encoding of orders.
  The reference's Encode of orders.
-/
import Derived.Test.YtjkiidhnmljmbaaGreatDoorRkAC
import Derived.Test.YtjkiidhnmljmbaaGreatDoorLits
import Derived.Test.YtjkiidhnmljmbaaGreatDoorTk
import Derived.Test.YtjkiidhnmljmbaaGreatDoorGoO
import Derived.Test.YtjkiidhnmljmbaaGreatDoorGqDF
import Derived.Test.YtjkiidhnmljmbaaGreatDoorGoST
set_option linter.unusedVariables false
set_option linter.unusedSimpArgs false
namespace Go.Proofs.YtjkiidhnmljmbaaGreatDoor
open Go.RowKit Onair
attribute [local go_sem] Oper.semAt_some
def iC (l : List Int) : List Value := l.map fun x => .int .i64 x
theorem iC_len (l : List Int) : (iC l).length = l.length := List.length_map _
theorem iC_app (a b : List Int) : iC (a ++ b) = iC a ++ iC b := List.map_append
theorem iC_get {l : List Int} {j : Nat} {u : Value} (h : (iC l)[j]? = some u) : ∃ x, l[j]? = some x ∧ u = .int .i64 x := by
  unfold iC at h
  rw [List.getElem?_map] at h
  obtain ⟨x, hx, e⟩ := Option.map_eq_some_iff.1 h
  exact ⟨x, hx, e.symm⟩
theorem iC_one (l : List Int) : ∀ u ∈ iC l, u.oneCell' = true := fun u hu => by
  obtain ⟨x, _, rfl⟩ := List.mem_map.1 hu
  rfl
theorem Tryz.infoIntR : (Tryz.prog.info? 3).map (fun i => (i.zero, i.size, i.bytes)) = some (some (.int .i64 0), 1, 8) := by kernel_rfl
/-- A new block of integers, as a row of one's own. -/
theorem own_new {W : World} {b B : Nat} {l : List Int} (h : Blk W b 3 (iC l)) (hB : B ≤ b) (h0 : l ≠ []) (hm : l.length ≤ 1000) : W.ownsRow B 3 1 (.slice (some ⟨b, 0, none⟩) l.length l.length) l.length (iC l) := by
  have hp : 0 < l.length := List.length_pos_iff.2 h0
  exact ⟨by rw [iC_len]; omega, .inr ⟨b, l.length, (iC l).toArray, rfl, hB, h, Nat.le_refl _, by unfold maxLen; omega, by simp [iC_len], by show List.take (l.length * 1) (iC l) = iC l; rw [Nat.mul_one]; exact List.take_of_length_le (Nat.le_of_eq (iC_len l))⟩⟩
/-- 'append' of integers just built. -/
theorem app_intsN (wr : World) (B : Nat) (v : Value) (n k : Nat) (xs ys : List Int) (hown : wr.ownsRow B 3 1 v n (iC xs)) (hn : n ≤ 1000) (hk : ys.length = k) (hk9 : k ≤ 1000) (hB : B ≤ wr.heap.size) (ty : TypeId) :
    ∃ oa cap w', (Builtin.append_ #[65, 65] ty #[v, .slice (some ⟨wr.heap.size, 0, none⟩) k k]).run Tryz.prog (wr.alloc (.cells (iC ys).toArray 3)) = .ok (.slice oa (n + k) cap) w' ∧ w'.ownsRow B 3 1 (.slice oa (n + k) cap) (n + k) (iC (xs ++ ys)) ∧ Fr (fun c => v.ownBlock = some c) wr w' ∧ (∀ c, (Value.slice oa (n + k) cap).ownBlock = some c → v.ownBlock = some c ∨ wr.heap.size ≤ c) := by
  obtain ⟨i0, hi, hz0, hz1, hz2⟩ := info_parts Tryz.infoIntR
  have hnew : Blk (wr.alloc (.cells (iC ys).toArray 3)) wr.heap.size 3 (iC ys) := Blk.new wr _ _
  obtain ⟨v', w', hrun, h1, h2, h3⟩ := app_own (P := Tryz.prog) (W := wr.alloc (.cells (iC ys).toArray 3)) B 65 ty 3 i0 (.int .i64 0) 1 8 Tryz.underlying65 hi hz0 hz1 hz2 rfl (by decide) v n (iC xs) (hown.alloc _) ⟨wr.heap.size, 0, none⟩ k k (iC ys) (by rw [iC_len, hk, Nat.mul_one]) (fun j u hj => by
      rw [show ((⟨wr.heap.size, 0, none⟩ : Addr).add j) = ⟨wr.heap.size, j, none⟩ from by unfold Addr.add; split <;> simp_all, hnew.cell]
      exact hj) (iC_one ys) (by unfold maxLen; omega) (by omega) (by simp; omega)
  obtain ⟨oa, cap, rfl⟩ := own_slice h1
  refine ⟨oa, cap, w', hrun, by rw [iC_app]; exact h1, ((Fr.refl _ wr).alloc _).trans h2 (fun k _ hk => hk), fun c hc => (h3 c hc).imp_right (fun h => ?_)⟩
  rw [World.size_alloc] at h
  omega
/-- 'append' of integers that are read. -/
theorem app_intsR (wr : World) (B : Nat) (v : Value) (n k c : Nat) (o2 : Option Addr) (xs ys : List Int) (hown : wr.ownsRow B 3 1 v n (iC xs)) (hn : n ≤ 1000) (hk : ys.length = k) (hk9 : k ≤ 1000) (hk0 : ys ≠ []) (hr : RdIn wr o2 ys) (hB : B ≤ wr.heap.size) (ty : TypeId) :
    ∃ oa cap w', (Builtin.append_ #[65, 65] ty #[v, .slice o2 k c]).run Tryz.prog wr = .ok (.slice oa (n + k) cap) w' ∧ w'.ownsRow B 3 1 (.slice oa (n + k) cap) (n + k) (iC (xs ++ ys)) ∧ Fr (fun c => v.ownBlock = some c) wr w' ∧ (∀ c, (Value.slice oa (n + k) cap).ownBlock = some c → v.ownBlock = some c ∨ wr.heap.size ≤ c) := by
  obtain ⟨i0, hi, hz0, hz1, hz2⟩ := info_parts Tryz.infoIntR
  obtain ⟨b, o, rfl, hlt, hc⟩ : ∃ b o, o2 = some ⟨b, o, none⟩ ∧ b < wr.heap.size ∧ ∀ (i : Nat) x, ys[i]? = some x → wr.cell? ⟨b, o + i, none⟩ = some (.int .i64 x) := by
    rcases hr with e | e
    · exact absurd e hk0
    · exact e
  obtain ⟨v', w', hrun, h1, h2, h3⟩ := app_own (P := Tryz.prog) (W := wr) B 65 ty 3 i0 (.int .i64 0) 1 8 Tryz.underlying65 hi hz0 hz1 hz2 rfl (by decide) v n (iC xs) hown ⟨b, o, none⟩ k c (iC ys) (by rw [iC_len, hk, Nat.mul_one]) (fun j u hj => by
      obtain ⟨x, hx, rfl⟩ := iC_get hj
      rw [show ((⟨b, o, none⟩ : Addr).add j) = ⟨b, o + j, none⟩ from by unfold Addr.add; split <;> simp_all]
      exact hc j x hx) (iC_one ys) (by unfold maxLen; omega) (by omega) hB
  obtain ⟨oa, cap, rfl⟩ := own_slice h1
  exact ⟨oa, cap, w', hrun, by rw [iC_app]; exact h1, h2, h3⟩
/-- A row of one's own can be read. -/
theorem rdin_of {W : World} {B n cap : Nat} {oa : Option Addr} {vs : List Int} (h : W.ownsRow B 3 1 (.slice oa n cap) n (iC vs)) (hn : vs.length = n) : RdIn W oa vs := by
  have h' := h
  rcases h.2 with ⟨he, h0⟩ | ⟨g, cap', cur, he, q1, q2, q3⟩
  · exact .inl (List.eq_nil_of_length_eq_zero (hn.trans h0))
  · simp at he
    obtain ⟨rfl, rfl, rfl⟩ := he
    refine .inr ⟨g, 0, rfl, (Array.getElem?_eq_some_iff.1 q2).1, fun i x hx => ?_⟩
    have hi := (List.getElem?_eq_some_iff.1 hx).1
    rw [Nat.zero_add]
    refine (h'.cellAt i (by omega)).trans ?_
    unfold iC
    rw [List.getElem?_map, hx]
    rfl
def ClD.nums (c : ClD) : List Int := [c.kind, c.item, c.frm, c.til, c.regs, c.n, c.a, c.b]
set_option maxHeartbeats 8000000 in
set_option maxRecDepth 100000 in
theorem rkClauseNumbers (c : ClD) (W : World) : Calls Tryz.prog 72 #[.agg c.l.toArray] W fun e w' => ∃ oa cap, e = .returned (.slice oa 8 cap) ∧ RdIn w' oa c.nums ∧ Below W.heap.size W w' := by
  obtain ⟨N, hN⟩ : ∃ N, W.heap.size = N := ⟨_, rfl⟩
  obtain ⟨w1, hw1⟩ : ∃ w1, W.alloc (.cells #[.int .i64 c.kind, .int .i64 c.item, .int .i64 c.frm, .int .i64 c.til, .int .i64 c.regs, .int .i64 c.n, .int .i64 c.a, .int .i64 c.b] 26) = w1 := ⟨_, rfl⟩
  have hb1 : Below N W w1 := by rw [← hw1, ← hN]; exact (Below.refl _ W).alloc (Nat.le_refl _) _
  have hk1 : Blk w1 N 26 c.l := by rw [← hw1, ← hN]; exact Blk.new W _ c.l
  have c0 : w1.cell? ⟨N, 0, none⟩ = some (.int .i64 c.kind) := hk1.cell 0
  have c1 : w1.cell? ⟨N, 1, none⟩ = some (.int .i64 c.item) := hk1.cell 1
  have c2 : w1.cell? ⟨N, 2, none⟩ = some (.int .i64 c.frm) := hk1.cell 2
  have c3 : w1.cell? ⟨N, 3, none⟩ = some (.int .i64 c.til) := hk1.cell 3
  have c4 : w1.cell? ⟨N, 4, none⟩ = some (.int .i64 c.regs) := hk1.cell 4
  have c5 : w1.cell? ⟨N, 5, none⟩ = some (.int .i64 c.n) := hk1.cell 5
  have c6 : w1.cell? ⟨N, 6, none⟩ = some (.int .i64 c.a) := hk1.cell 6
  have c7 : w1.cell? ⟨N, 7, none⟩ = some (.int .i64 c.b) := hk1.cell 7
  obtain ⟨G, hG⟩ : ∃ G, w1.heap.size = G := ⟨_, rfl⟩
  obtain ⟨w2, hw2⟩ : ∃ w2, w1.alloc (.cells #[.int .i64 c.kind, .int .i64 c.item, .int .i64 c.frm, .int .i64 c.til, .int .i64 c.regs, .int .i64 c.n, .int .i64 c.a, .int .i64 c.b] 3) = w2 := ⟨_, rfl⟩
  have hk2 : Blk w2 G 3 (iC c.nums) := by rw [← hw2, ← hG]; exact Blk.new w1 _ (iC c.nums)
  have hown := own_new hk2 (Nat.le_refl G) (by simp [ClD.nums]) (by simp [ClD.nums])
  have HR := Lib.hid (rdin_of hown rfl)
  have HB : Hid (Below W.heap.size W w2) := by rw [hN, ← hw2]; exact hb1.alloc (by have := hk1.lt; omega) _
  show Calls Tryz.prog 72 #[.agg #[.int .i64 c.kind, .int .i64 c.item, .int .i64 c.frm, .int .i64 c.til, .int .i64 c.regs, .int .i64 c.n, .int .i64 c.a, .int .i64 c.b]] W _
  clear hb1 hk1 hk2 hown
  go_enter Tryz.func72, Tryz.ntmps72
  go_wp2_with fail
  go_ret
  exact ⟨_, _, rfl, HR.out, HB.out⟩
theorem altI_twice (al : List (Int × Int)) : (altI al).length = 2 * al.length := by
  induction al with
  | nil => rfl
  | cons p l ih => simp only [altI, List.flatMap_cons, List.length_append, List.length_cons, List.length_nil] at *; omega
def eN (o : GOd) : List Int := [o.nid, o.item, o.frs, o.ear, o.lat, o.book, (o.an : Int)]
def EnI (W wr : World) (N B : Nat) (o : GOd) (al : List (Int × Int)) (vl vi : Value) : Prop := ∃ (i cl : Nat) (ol : Option Addr), i ≤ o.an ∧ vi = .int .i64 i ∧ vl = .slice ol (7 + 2 * i) cl ∧ Hid (Blk wr N 24 [.int .i64 o.nid, .int .i64 o.item, .int .i64 o.frs, .int .i64 o.ear, .int .i64 o.lat, .int .i64 o.book, .slice o.ao o.an o.ac]) ∧ Hid (wr.ownsRow B 3 1 (.slice ol (7 + 2 * i) cl) (7 + 2 * i) (iC (eN o ++ altI (al.take i)))) ∧ Hid (Below N W wr) ∧ Hid (B ≤ wr.heap.size)
/-- What EntryNumbers answers. -/
def EnPost (W : World) (o : GOd) (al : List (Int × Int)) (e : Ending) (w' : World) : Prop := ∃ oa cap, e = .returned (.slice oa (7 + 2 * o.an) cap) ∧ RdIn w' oa (eN o ++ altI al) ∧ Below W.heap.size W w'

set_option maxHeartbeats 8000000 in
set_option maxRecDepth 100000 in
theorem rkEntryNumbers (o : GOd) (al : List (Int × Int)) (W : World) (hn : al.length = o.an) (hlm : o.an ≤ 100) (hr : RdA W o.ao al) : Calls Tryz.prog 71 #[.agg #[.int .i64 o.nid, .int .i64 o.item, .int .i64 o.frs, .int .i64 o.ear, .int .i64 o.lat, .int .i64 o.book, .slice o.ao o.an o.ac]] W (EnPost W o al) := by
  obtain ⟨N, hN⟩ : ∃ N, W.heap.size = N := ⟨_, rfl⟩
  obtain ⟨w1, hw1⟩ : ∃ w1, W.alloc (.cells #[.int .i64 o.nid, .int .i64 o.item, .int .i64 o.frs, .int .i64 o.ear, .int .i64 o.lat, .int .i64 o.book, .slice o.ao o.an o.ac] 24) = w1 := ⟨_, rfl⟩
  have hb1 : Below N W w1 := by rw [← hw1, ← hN]; exact (Below.refl _ W).alloc (Nat.le_refl _) _
  have hk1 : Blk w1 N 24 [.int .i64 o.nid, .int .i64 o.item, .int .i64 o.frs, .int .i64 o.ear, .int .i64 o.lat, .int .i64 o.book, .slice o.ao o.an o.ac] := by rw [← hw1, ← hN]; exact Blk.new W _ _
  have c0 : w1.cell? ⟨N, 0, none⟩ = some (.int .i64 o.nid) := hk1.cell 0
  have c1 : w1.cell? ⟨N, 1, none⟩ = some (.int .i64 o.item) := hk1.cell 1
  have c2 : w1.cell? ⟨N, 2, none⟩ = some (.int .i64 o.frs) := hk1.cell 2
  have c3 : w1.cell? ⟨N, 3, none⟩ = some (.int .i64 o.ear) := hk1.cell 3
  have c4 : w1.cell? ⟨N, 4, none⟩ = some (.int .i64 o.lat) := hk1.cell 4
  have c5 : w1.cell? ⟨N, 5, none⟩ = some (.int .i64 o.book) := hk1.cell 5
  have c6 : w1.cell? ⟨N, 6, none⟩ = some (.slice o.ao o.an o.ac) := hk1.cell 6
  obtain ⟨G, hG⟩ : ∃ G, w1.heap.size = G := ⟨_, rfl⟩
  have hNG : N < G := by rw [← hG]; exact hk1.lt
  obtain ⟨w2, hw2⟩ : ∃ w2, w1.alloc (.cells #[.int .i64 o.nid, .int .i64 o.item, .int .i64 o.frs, .int .i64 o.ear, .int .i64 o.lat, .int .i64 o.book, .int .i64 (o.an : Int)] 3) = w2 := ⟨_, rfl⟩
  have hk2 : Blk w2 G 3 (iC (eN o)) := by rw [← hw2, ← hG]; exact Blk.new w1 _ (iC (eN o))
  have hb2 : Below G w1 w2 := by rw [← hw2, ← hG]; exact (Below.refl _ w1).alloc (Nat.le_refl _) _
  obtain ⟨B, hBG⟩ : ∃ B, B = G := ⟨_, rfl⟩
  have HO0 : Hid (w2.ownsRow B 3 1 (.slice (some ⟨G, 0, none⟩) (7 + 2 * 0) 7) (7 + 2 * 0) (iC (eN o ++ altI (al.take 0)))) := by
    rw [show eN o ++ altI (al.take 0) = eN o from by simp [altI]]
    exact own_new hk2 (show B ≤ G by omega) (by simp [eN]) (by simp [eN])
  have HM0 : Hid (Blk w2 N 24 [.int .i64 o.nid, .int .i64 o.item, .int .i64 o.frs, .int .i64 o.ear, .int .i64 o.lat, .int .i64 o.book, .slice o.ao o.an o.ac]) := hk1.kept (hb2.block N hNG)
  have HZ0 : Hid (B ≤ w2.heap.size) := (by rw [hBG, ← hw2, World.size_alloc, hG]; omega : B ≤ w2.heap.size)
  have HF0 : Hid (Below N W w2) := hb1.trans (hb2.mono (Nat.le_of_lt hNG))
  have HN := Lib.hid hN
  have HR := Lib.hid hr
  have HL := Lib.hid hn
  have hNB : N < B := by omega
  have HWB : Hid (W.heap.size ≤ B) := (by rw [hN]; omega : W.heap.size ≤ B)
  clear hb1 hk1 hk2 hb2 hr hn hNG
  go_enter Tryz.func71, Tryz.ntmps71
  go_wp2_with fail
  clear c0 c1 c2 c3 c4 c5 c6 hw1 hw2 hN hG hBG
  go_loopw [3, 4] (fun vl vi wr => EnI W wr N B o al vl vi) (fun _ v _ => o.an - (intOf v).toNat)
  case atStart => exact ⟨0, 7, _, Nat.zero_le _, rfl, rfl, HM0, HO0, HF0, HZ0⟩
  case round =>
    clear HM0 HO0 HF0 HZ0
    obtain ⟨i, cl, ol, hin, rfl, rfl, HM, HO, HF, HZ⟩ := hrel
    have c6 : wr.cell? ⟨N, 6, none⟩ = some (.slice o.ao o.an o.ac) := HM.out.cell 6
    by_cases h : i < o.an
    · have q1 : (i : Int) < (o.an : Int) := by omega
      have q2 : (0 : Int) ≤ (i : Int) := by omega
      obtain ⟨p, hp⟩ : ∃ p, al[i]? = some p := ⟨al[i]'(by rw [HL.out]; exact h), List.getElem?_eq_getElem _⟩
      obtain ⟨ab, ao, hoa, hlt, h1, h2⟩ := (HR.out.kept (by rw [HN.out]; exact HF.out)).at i p hp
      have hab : ab < W.heap.size := by
        rcases HR.out with e | ⟨b, o', e, hl, _⟩
        · rw [e] at hp; simp at hp
        · rw [e] at hoa; cases hoa; exact hl
      have HSN : Hid (eN o ++ altI (al.take (i + 1)) = eN o ++ altI (al.take i) ++ [p.1, p.2]) := (by rw [List.take_add_one, hp]; simp [altI] : eN o ++ altI (al.take (i + 1)) = eN o ++ altI (al.take i) ++ [p.1, p.2])
      obtain ⟨x, y⟩ := p
      have HA : Hid (wr.cell? ⟨ab, ao + i * 2, none⟩ = some (.int .i64 x) ∧ wr.cell? ⟨ab, ao + i * 2 + 1, none⟩ = some (.int .i64 y)) := ⟨h1, h2⟩
      have habN : ab < N := by rw [← HN.out]; exact hab
      rw [hoa] at HM c6
      clear hp hlt h1 h2 hab h
      go_upto_region 5 with (fail)
      clear c6
      refine wp_region_held_drew (S := fun W => W.cell? ⟨N, 6, none⟩ = some (.slice (some ⟨ab, ao, none⟩) o.an o.ac) ∧ W.cell? ⟨ab, ao + i * 2, none⟩ = some (.int .i64 x) ∧ W.cell? ⟨ab, ao + i * 2 + 1, none⟩ = some (.int .i64 y)) (by kernel_rfl) ?_ (fun hHeld => ?_)
      · exact ⟨HM.out.drew.cell 6, HA.out.1, HA.out.2⟩
      have hm9 := HM.out.drew
      have hf9 := HF.out.drew
      have hz9 : B ≤ wr.drew.heap.size := HZ.out
      have ha9 : wr.drew.cell? ⟨ab, ao + i * 2, none⟩ = some (.int .i64 x) ∧ wr.drew.cell? ⟨ab, ao + i * 2 + 1, none⟩ = some (.int .i64 y) := HA.out
      have ho9 := ownsRow_keptF (W' := wr.drew) HO.out (fun _ _ => rfl)
      generalize World.drew _ = z at hm9 hf9 ha9 ho9 hz9 hHeld ⊢
      have HM := Lib.hid hm9
      have HF := Lib.hid hf9
      have HA := Lib.hid ha9
      have HO := Lib.hid ho9
      have HZ := Lib.hid hz9
      clear hm9 hf9 ha9 ho9 hz9
      refine tk 0 (some 28) ?_
      refine tk 1 (some 29) ?_
      refine tk 2 (some 30) ?_
      refine tk 3 (some 31) ?_
      refine tk 4 (some 32) ?_
      refine tk 5 (some 33) ?_
      refine tk 6 (some 34) ?_
      refine tk 7 (some 35) ?_
      refine tk 8 (some 36) ?_
      refine tk 9 (some 37) ?_
      refine tk 10 (some 38) ?_
      refine tk 11 (some 39) ?_
      refine tk 12 (some 40) ?_
      refine rd1 13 (some 41) (fun K hK => ?_)
      go_simp
      have hbz : Below z.heap.size z (z.alloc (.cells #[.int .i64 x, .int .i64 y] 3)) := (Below.refl _ z).alloc (Nat.le_refl _) _
      have HMZ := HM
      have HAZ := HA
      have HM := Lib.hid (HM.out.kept (hbz.block _ HM.out.lt))
      have HA : Hid (World.cell? _ ⟨ab, ao + i * 2, none⟩ = some (.int .i64 x) ∧ World.cell? _ ⟨ab, ao + i * 2 + 1, none⟩ = some (.int .i64 y)) := ⟨(hbz.cell (p := ⟨ab, ao + i * 2, none⟩) (block_lt HA.out.1)).trans HA.out.1, (hbz.cell (p := ⟨ab, ao + i * 2 + 1, none⟩) (block_lt HA.out.2)).trans HA.out.2⟩
      clear hbz
      refine hK.out _ _ ?_ (fun hHeld2 => ?_)
      · exact ⟨HM.out.cell 6, HA.out.1, HA.out.2⟩
      clear hK K hHeld
      rename _ => hHeld
      try simp only [Act.put, List.setIfInBounds_toArray, List.set_cons_zero, List.set_cons_succ]
      refine rd1 14 (some 42) (fun K hK => ?_)
      obtain ⟨oa, cap, w5, hrun, ho5, hf5, hk5⟩ := app_intsN z B (.slice ol (7 + 2 * i) cl) (7 + 2 * i) 2 (eN o ++ altI (al.take i)) [x, y] HO.out (by omega) rfl (by decide) HZ.out 65
      refine step_run (by rfl) _ _ (by rfl) (by rfl) (by rfl) (fun _ => hrun) ?_
      have HM := Lib.hid (HMZ.out.kept (hf5.block N HMZ.out.lt (fun e => by have := own_ge HO.out _ e; omega)))
      have HA : Hid (w5.cell? ⟨ab, ao + i * 2, none⟩ = some (.int .i64 x) ∧ w5.cell? ⟨ab, ao + i * 2 + 1, none⟩ = some (.int .i64 y)) := ⟨hf5.cellK HAZ.out.1 (fun e => by have := own_ge HO.out _ e; simp only at this; omega), hf5.cellK HAZ.out.2 (fun e => by have := own_ge HO.out _ e; simp only at this; omega)⟩
      have HO5 := Lib.hid ho5
      have HZ5 : Hid (B ≤ w5.heap.size) := Nat.le_trans HZ.out hf5.size
      have HF5 : Hid (Below N W w5) := HF.out.trans (hf5.below N (bnl9 HN.out HF.out) (fun c e => by have := own_ge HO.out c e; omega))
      clear hrun ho5 hf5 hk5
      refine hK.out _ _ ?_ (fun hHeld2 => ?_)
      · exact ⟨HM.out.cell 6, HA.out.1, HA.out.2⟩
      clear hK K hHeld
      rename _ => hHeld
      try simp only [Act.put, List.setIfInBounds_toArray, List.set_cons_zero, List.set_cons_succ]
      refine tk 15 (some 3) ?_
      refine wpAnyH_done (by kernel_rfl) ?_ _
      clear hHeld
      go_wp2_with fail
      go_roundw
      case rel => exact ⟨i + 1, _, _, by omega, by go_num, by rw [show 7 + 2 * (i + 1) = 7 + 2 * i + 2 by omega], by rw [hoa]; exact HM.out, by rw [HSN.out, show 7 + 2 * (i + 1) = 7 + 2 * i + 2 by omega]; exact HO5.out, HF5, HZ5⟩
      case measure => simp [intOf]; omega
    · have q1 : ¬ (i : Int) < (o.an : Int) := by omega
      have e : i = o.an := by omega
      subst e
      have ht : al.take o.an = al := List.take_of_length_le (by rw [HL.out]; exact Nat.le_refl _)
      rw [ht] at HO
      have HRD := Lib.hid (rdin_of HO.out (by rw [List.length_append, altI_twice, HL.out]; rfl))
      clear h ht
      go_wp2_with fail
      go_ret
      exact ⟨_, _, rfl, HRD.out, by rw [HN.out]; exact HF.out⟩
end Go.Proofs.YtjkiidhnmljmbaaGreatDoor
namespace Go.Proofs.YtjkiidhnmljmbaaGreatDoor
open Go.RowKit Onair
theorem okB_kind5 {o : GOd} {al : List (Int × Int)} (h : okB o al = true) : o.k = 1 ∨ o.k = 2 ∨ o.k = 3 ∨ o.k = 4 ∨ o.k = 5 := by
  unfold okB at h
  rw [Bool.and_eq_true] at h
  by_cases h1 : o.k = 1
  · exact .inl h1
  by_cases h2 : o.k = 2
  · exact .inr (.inl h2)
  by_cases h3 : o.k = 3
  · exact .inr (.inr (.inl h3))
  by_cases h4 : o.k = 4
  · exact .inr (.inr (.inr (.inl h4)))
  by_cases h5 : o.k = 5
  · exact .inr (.inr (.inr (.inr h5)))
  rw [if_neg h1, if_neg h2, if_neg h3, if_neg h4, if_neg h5] at h
  exact absurd h.2 (by decide)
/-- A string of bytes behind another. -/
theorem bytes_app (a b : List UInt8) : (⟨a.toArray⟩ : ByteArray) ++ (⟨b.toArray⟩ : ByteArray) = ⟨(a ++ b).toArray⟩ := append_list a _
theorem bytes_size (a : List UInt8) : (⟨a.toArray⟩ : ByteArray).size = a.length := List.size_toArray
theorem putSL_small (s : ByteArray) : (putSL s.data.toList).length ≤ 70000 := by
  unfold putSL
  by_cases h9 : 65536 < s.data.toList.length
  · rw [if_pos h9]
    exact Nat.zero_le _
  · rw [if_neg h9]
    have := putL_len (s.data.toList.length : Int)
    rw [List.length_append]
    omega
theorem rangeE {W : World} {N : Nat} {o : GOd} (h : Blk W N 30 o.l) : W.rangeAt N 6 [.int .i64 o.nid, .int .i64 o.item, .int .i64 o.frs, .int .i64 o.ear, .int .i64 o.lat, .int .i64 o.book, .slice o.ao o.an o.ac] := fun j v hj => by
  have hl := (List.getElem?_eq_some_iff.1 hj).1
  rw [h.cell]
  match j, hl with
  | 0, _ => exact hj
  | 1, _ => exact hj
  | 2, _ => exact hj
  | 3, _ => exact hj
  | 4, _ => exact hj
  | 5, _ => exact hj
  | 6, _ => exact hj
theorem rangeC {W : World} {N : Nat} {o : GOd} (h : Blk W N 30 o.l) : W.rangeAt N 13 o.cl.l := fun j v hj => by
  have hl : j < 8 := (List.getElem?_eq_some_iff.1 hj).1
  rw [h.cell]
  match j, hl with
  | 0, _ => exact hj
  | 1, _ => exact hj
  | 2, _ => exact hj
  | 3, _ => exact hj
  | 4, _ => exact hj
  | 5, _ => exact hj
  | 6, _ => exact hj
  | 7, _ => exact hj
theorem eN_len (o : GOd) (al : List (Int × Int)) (hn : al.length = o.an) : (eN o ++ altI al).length = 7 + 2 * o.an := by
  rw [List.length_append, altI_twice, hn]
  rfl
theorem enc15_1 (o : GOd) (al : List (Int × Int)) (hk : o.k = 1) : encI ([o.s, o.ch, o.f, 1] ++ [o.e, o.n]) = encG o al := by
  unfold encG numsG tailG
  rw [hk, if_pos rfl, if_neg (by decide), if_neg (by decide), encI_app, List.append_nil]
theorem enc15_2 (o : GOd) (al : List (Int × Int)) (hk : o.k = 2) : encI ([o.s, o.ch, o.f, 2] ++ [o.e]) = encG o al := by
  unfold encG numsG tailG
  rw [hk, if_neg (by decide), if_pos rfl, if_neg (by decide), if_neg (by decide), encI_app, List.append_nil]
theorem enc15_3 (o : GOd) (al : List (Int × Int)) (hn : al.length = o.an) (hk : o.k = 3) : encI ([o.s, o.ch, o.f, 3] ++ (eN o ++ altI al)) = encG o al := by
  unfold encG numsG tailG
  rw [hk, if_neg (by decide), if_neg (by decide), if_pos rfl, if_pos rfl, encI_app, encI_app, hn]
  simp [eN, encI]
theorem enc15_4 (o : GOd) (al : List (Int × Int)) (hk : o.k = 4) : encI ([o.s, o.ch, o.f, 4] ++ o.cl.nums) = encG o al := by
  unfold encG numsG tailG
  rw [hk, if_neg (by decide), if_neg (by decide), if_neg (by decide), if_pos rfl, if_neg (by decide), if_neg (by decide), encI_app, List.append_nil]
  rfl
theorem enc15_5 (o : GOd) (al : List (Int × Int)) (hk : o.k = 5) : encI ([o.s, o.ch, o.f, 5] ++ [o.qid, o.qf, o.qt, o.qp]) ++ putSL o.txt.data.toList = encG o al := by
  unfold encG numsG tailG
  rw [hk, if_neg (by decide), if_neg (by decide), if_neg (by decide), if_neg (by decide), if_pos rfl, if_neg (by decide), if_pos rfl, encI_app]
set_option maxHeartbeats 8000000 in
set_option maxRecDepth 100000 in
theorem ref15Enc_1 (o : GOd) (al : List (Int × Int)) (W : World) (hn : al.length = o.an) (hlm : o.an ≤ 100) (hr : RdA W o.ao al) (hts : o.txt.size ≤ 65536) (hok : okB o al = true) (hk : o.k = 1) : Calls Tryz.prog 36 #[.agg o.l.toArray] W fun e w' => e = .returned (.tuple #[.string ⟨(encG o al).toArray⟩, .int .i64 0]) ∧ Below W.heap.size W w' := by
  have hts0 := hts
  have HKK := Lib.hid hk
  clear hk
  replace hts : o.txt.size ≤ maxLen := by unfold maxLen; omega
  obtain ⟨N, hN⟩ : ∃ N, W.heap.size = N := ⟨_, rfl⟩
  obtain ⟨w1, hw1⟩ : ∃ w1, W.alloc (.cells (aO o) 30) = w1 := ⟨_, rfl⟩
  have hb1 : Below N W w1 := by rw [← hw1, ← hN]; exact (Below.refl _ W).alloc (Nat.le_refl _) _
  have hk1 : Blk w1 N 30 o.l := by rw [← hw1, ← hN]; exact Blk.new W _ o.l
  have HVL := Lib.hid (gRef15 o al w1 hn (by omega) (hr.kept (hN ▸ hb1)) hts)
  rw [hok] at HVL
  have HSZ := Lib.hid (show (Tryz.prog.info? 30).map (·.size) = some 26 from by kernel_rfl)
  have HN := Lib.hid hN
  have HB1 := Lib.hid hb1
  have HK1 := Lib.hid hk1
  show Calls Tryz.prog 36 #[.agg (aO o)] W _
  go_enter Tryz.func36, Tryz.ntmps36
  go_wp2_with (refine wpList_load_mid rfl 30 (.tmp 1) rfl N 0 rfl o.l _ HK1.out.range Tryz.underlying30 rfl HSZ.out ?_)
  refine HVL.out.mono ?_
  rintro e w2 ⟨rfl, hb2⟩
  have hk2 : Blk w2 N 30 o.l := HK1.out.kept (hb2.block _ HK1.out.lt)
  have hB2 : Below N W w2 := HB1.out.trans (hb2.mono (bnl9 HN.out HB1.out))
  obtain ⟨G, hG⟩ : ∃ G, w2.heap.size = G := ⟨_, rfl⟩
  have hNG : N < G := by rw [← hG]; exact hk2.lt
  obtain ⟨w3, hw3⟩ : ∃ w3, w2.alloc (.cells #[.int .i64 o.s, .int .i64 o.ch, .int .i64 o.f, .int .i64 1] 3) = w3 := ⟨_, rfl⟩
  have hk3 : Blk w3 G 3 (iC [o.s, o.ch, o.f, 1]) := by rw [← hw3, ← hG]; exact Blk.new w2 _ (iC [o.s, o.ch, o.f, 1])
  have hb3 : Below G w2 w3 := by rw [← hw3, ← hG]; exact (Below.refl _ w2).alloc (Nat.le_refl _) _
  have hk4 : Blk w3 N 30 o.l := hk2.kept (hb3.block N hNG)
  have HO3 : Hid (w3.ownsRow G 3 1 (.slice (some ⟨G, 0, none⟩) 4 4) 4 (iC [o.s, o.ch, o.f, 1])) := own_new hk3 (Nat.le_refl _) (by simp) (by simp)
  have HB3 : Hid (Below N W w3) := hB2.trans (hb3.mono (Nat.le_of_lt hNG))
  have HK4 := Lib.hid hk4
  have HZ3 : Hid (G ≤ w3.heap.size) := (by rw [← hw3, World.size_alloc, hG]; omega : G ≤ w3.heap.size)
  have c0 : w2.cell? ⟨N, 0, none⟩ = some (.int .i64 o.s) := hk2.cell 0
  have c1 : w2.cell? ⟨N, 1, none⟩ = some (.int .i64 o.ch) := hk2.cell 1
  have c2 : w2.cell? ⟨N, 2, none⟩ = some (.int .i64 o.f) := hk2.cell 2
  have c3 : w2.cell? ⟨N, 3, none⟩ = some (.int .i64 1) := by rw [← HKK.out]; exact hk2.cell 3
  have d3 : w3.cell? ⟨N, 3, none⟩ = some (.int .i64 1) := by rw [← HKK.out]; exact hk4.cell 3
  have d4 : w3.cell? ⟨N, 4, none⟩ = some (.int .i64 o.e) := hk4.cell 4
  have d5 : w3.cell? ⟨N, 5, none⟩ = some (.int .i64 o.n) := hk4.cell 5
  obtain ⟨oa, cap, w5, hrun, ho5, hf5, hk5⟩ := app_intsN w3 G (.slice (some ⟨G, 0, none⟩) 4 4) 4 2 [o.s, o.ch, o.f, 1] [o.e, o.n] HO3.out (by decide) rfl (by decide) HZ3.out 65
  have HB5 : Hid (Below N W w5) := HB3.out.trans (hf5.below N (bnl9 HN.out HB3.out) (fun c e => by have := own_ge HO3.out c e; omega))
  have HRD := Lib.hid (rdin_of ho5 rfl)
  clear ho5 hf5 hk5
  clear hb2 hb1 hk1 hN hw1 hr hts hk2 hB2 hk3 hb3 hk4
  go_wp2_with (at_builtin; refine wpList_append_run _ rfl _ _ 65 rfl _ _ _ _ rfl rfl hrun ?_)
  clear hrun
  refine (rkNumbers w5 oa (4 + 2) cap ([o.s, o.ch, o.f, 1] ++ [o.e, o.n]) rfl (by omega) HRD.out).mono ?_
  rintro e w7 ⟨rfl, hb7⟩
  have HB7 : Hid (Below N W w7) := HB5.out.trans (hb7.mono (bnl9 HN.out HB5.out))
  clear hb7 HRD
  have hes : (encI ([o.s, o.ch, o.f, 1] ++ [o.e, o.n])).length ≤ 9 * 1000 := by
    have h1 := encI_len ([o.s, o.ch, o.f, 1] ++ [o.e, o.n])
    have h2 : ([o.s, o.ch, o.f, 1] ++ [o.e, o.n]).length = (4 + 2) := rfl
    rw [h2] at h1
    omega
  obtain ⟨S, hS⟩ : ∃ S : ByteArray, (⟨(encI ([o.s, o.ch, o.f, 1] ++ [o.e, o.n])).toArray⟩ : ByteArray) = S := ⟨_, rfl⟩
  have hsz : S.size ≤ 9000 := by rw [← hS, bytes_size]; exact hes
  rw [hS]
  have HS := Lib.hid hS
  have q3 : ¬ (S.size + (⟨#[]⟩ : ByteArray).size > 9223372036854775807) := by show ¬ (S.size + 0 > 9223372036854775807); omega
  have q4 : ¬ (9223372036854775807 < S.size + (⟨#[]⟩ : ByteArray).size) := by show ¬ (9223372036854775807 < S.size + 0); omega
  have HE : Hid (S ++ (⟨#[]⟩ : ByteArray) = S) := (by rw [← HS.out]; exact (bytes_app _ []).trans (by rw [List.append_nil]) : S ++ (⟨#[]⟩ : ByteArray) = S)
  clear hS hes hsz
  go_wp2_with fail
  go_ret2
  exact ⟨by first | (rw [HE.out, ← HS.out, enc15_1 o al HKK.out]; rfl) | (rw [← HS.out, enc15_1 o al HKK.out]; rfl), by rw [HN.out]; exact HB7.out⟩
set_option maxHeartbeats 8000000 in
set_option maxRecDepth 100000 in
theorem ref15Enc_2 (o : GOd) (al : List (Int × Int)) (W : World) (hn : al.length = o.an) (hlm : o.an ≤ 100) (hr : RdA W o.ao al) (hts : o.txt.size ≤ 65536) (hok : okB o al = true) (hk : o.k = 2) : Calls Tryz.prog 36 #[.agg o.l.toArray] W fun e w' => e = .returned (.tuple #[.string ⟨(encG o al).toArray⟩, .int .i64 0]) ∧ Below W.heap.size W w' := by
  have hts0 := hts
  have HKK := Lib.hid hk
  clear hk
  replace hts : o.txt.size ≤ maxLen := by unfold maxLen; omega
  obtain ⟨N, hN⟩ : ∃ N, W.heap.size = N := ⟨_, rfl⟩
  obtain ⟨w1, hw1⟩ : ∃ w1, W.alloc (.cells (aO o) 30) = w1 := ⟨_, rfl⟩
  have hb1 : Below N W w1 := by rw [← hw1, ← hN]; exact (Below.refl _ W).alloc (Nat.le_refl _) _
  have hk1 : Blk w1 N 30 o.l := by rw [← hw1, ← hN]; exact Blk.new W _ o.l
  have HVL := Lib.hid (gRef15 o al w1 hn (by omega) (hr.kept (hN ▸ hb1)) hts)
  rw [hok] at HVL
  have HSZ := Lib.hid (show (Tryz.prog.info? 30).map (·.size) = some 26 from by kernel_rfl)
  have HN := Lib.hid hN
  have HB1 := Lib.hid hb1
  have HK1 := Lib.hid hk1
  show Calls Tryz.prog 36 #[.agg (aO o)] W _
  go_enter Tryz.func36, Tryz.ntmps36
  go_wp2_with (refine wpList_load_mid rfl 30 (.tmp 1) rfl N 0 rfl o.l _ HK1.out.range Tryz.underlying30 rfl HSZ.out ?_)
  refine HVL.out.mono ?_
  rintro e w2 ⟨rfl, hb2⟩
  have hk2 : Blk w2 N 30 o.l := HK1.out.kept (hb2.block _ HK1.out.lt)
  have hB2 : Below N W w2 := HB1.out.trans (hb2.mono (bnl9 HN.out HB1.out))
  obtain ⟨G, hG⟩ : ∃ G, w2.heap.size = G := ⟨_, rfl⟩
  have hNG : N < G := by rw [← hG]; exact hk2.lt
  obtain ⟨w3, hw3⟩ : ∃ w3, w2.alloc (.cells #[.int .i64 o.s, .int .i64 o.ch, .int .i64 o.f, .int .i64 2] 3) = w3 := ⟨_, rfl⟩
  have hk3 : Blk w3 G 3 (iC [o.s, o.ch, o.f, 2]) := by rw [← hw3, ← hG]; exact Blk.new w2 _ (iC [o.s, o.ch, o.f, 2])
  have hb3 : Below G w2 w3 := by rw [← hw3, ← hG]; exact (Below.refl _ w2).alloc (Nat.le_refl _) _
  have hk4 : Blk w3 N 30 o.l := hk2.kept (hb3.block N hNG)
  have HO3 : Hid (w3.ownsRow G 3 1 (.slice (some ⟨G, 0, none⟩) 4 4) 4 (iC [o.s, o.ch, o.f, 2])) := own_new hk3 (Nat.le_refl _) (by simp) (by simp)
  have HB3 : Hid (Below N W w3) := hB2.trans (hb3.mono (Nat.le_of_lt hNG))
  have HK4 := Lib.hid hk4
  have HZ3 : Hid (G ≤ w3.heap.size) := (by rw [← hw3, World.size_alloc, hG]; omega : G ≤ w3.heap.size)
  have c0 : w2.cell? ⟨N, 0, none⟩ = some (.int .i64 o.s) := hk2.cell 0
  have c1 : w2.cell? ⟨N, 1, none⟩ = some (.int .i64 o.ch) := hk2.cell 1
  have c2 : w2.cell? ⟨N, 2, none⟩ = some (.int .i64 o.f) := hk2.cell 2
  have c3 : w2.cell? ⟨N, 3, none⟩ = some (.int .i64 2) := by rw [← HKK.out]; exact hk2.cell 3
  have d3 : w3.cell? ⟨N, 3, none⟩ = some (.int .i64 2) := by rw [← HKK.out]; exact hk4.cell 3
  have d4 : w3.cell? ⟨N, 4, none⟩ = some (.int .i64 o.e) := hk4.cell 4
  obtain ⟨oa, cap, w5, hrun, ho5, hf5, hk5⟩ := app_intsN w3 G (.slice (some ⟨G, 0, none⟩) 4 4) 4 1 [o.s, o.ch, o.f, 2] [o.e] HO3.out (by decide) rfl (by decide) HZ3.out 65
  have HB5 : Hid (Below N W w5) := HB3.out.trans (hf5.below N (bnl9 HN.out HB3.out) (fun c e => by have := own_ge HO3.out c e; omega))
  have HRD := Lib.hid (rdin_of ho5 rfl)
  clear ho5 hf5 hk5
  clear hb2 hb1 hk1 hN hw1 hr hts hk2 hB2 hk3 hb3 hk4
  go_wp2_with (at_builtin; refine wpList_append_run _ rfl _ _ 65 rfl _ _ _ _ rfl rfl hrun ?_)
  clear hrun
  refine (rkNumbers w5 oa (4 + 1) cap ([o.s, o.ch, o.f, 2] ++ [o.e]) rfl (by omega) HRD.out).mono ?_
  rintro e w7 ⟨rfl, hb7⟩
  have HB7 : Hid (Below N W w7) := HB5.out.trans (hb7.mono (bnl9 HN.out HB5.out))
  clear hb7 HRD
  have hes : (encI ([o.s, o.ch, o.f, 2] ++ [o.e])).length ≤ 9 * 1000 := by
    have h1 := encI_len ([o.s, o.ch, o.f, 2] ++ [o.e])
    have h2 : ([o.s, o.ch, o.f, 2] ++ [o.e]).length = (4 + 1) := rfl
    rw [h2] at h1
    omega
  obtain ⟨S, hS⟩ : ∃ S : ByteArray, (⟨(encI ([o.s, o.ch, o.f, 2] ++ [o.e])).toArray⟩ : ByteArray) = S := ⟨_, rfl⟩
  have hsz : S.size ≤ 9000 := by rw [← hS, bytes_size]; exact hes
  rw [hS]
  have HS := Lib.hid hS
  have q3 : ¬ (S.size + (⟨#[]⟩ : ByteArray).size > 9223372036854775807) := by show ¬ (S.size + 0 > 9223372036854775807); omega
  have q4 : ¬ (9223372036854775807 < S.size + (⟨#[]⟩ : ByteArray).size) := by show ¬ (9223372036854775807 < S.size + 0); omega
  have HE : Hid (S ++ (⟨#[]⟩ : ByteArray) = S) := (by rw [← HS.out]; exact (bytes_app _ []).trans (by rw [List.append_nil]) : S ++ (⟨#[]⟩ : ByteArray) = S)
  clear hS hes hsz
  go_wp2_with fail
  go_ret2
  exact ⟨by first | (rw [HE.out, ← HS.out, enc15_2 o al HKK.out]; rfl) | (rw [← HS.out, enc15_2 o al HKK.out]; rfl), by rw [HN.out]; exact HB7.out⟩
set_option maxHeartbeats 8000000 in
set_option maxRecDepth 100000 in
theorem ref15Enc_3 (o : GOd) (al : List (Int × Int)) (W : World) (hn : al.length = o.an) (hlm : o.an ≤ 100) (hr : RdA W o.ao al) (hts : o.txt.size ≤ 65536) (hok : okB o al = true) (hk : o.k = 3) : Calls Tryz.prog 36 #[.agg o.l.toArray] W fun e w' => e = .returned (.tuple #[.string ⟨(encG o al).toArray⟩, .int .i64 0]) ∧ Below W.heap.size W w' := by
  have hts0 := hts
  have HKK := Lib.hid hk
  clear hk
  replace hts : o.txt.size ≤ maxLen := by unfold maxLen; omega
  obtain ⟨N, hN⟩ : ∃ N, W.heap.size = N := ⟨_, rfl⟩
  obtain ⟨w1, hw1⟩ : ∃ w1, W.alloc (.cells (aO o) 30) = w1 := ⟨_, rfl⟩
  have hb1 : Below N W w1 := by rw [← hw1, ← hN]; exact (Below.refl _ W).alloc (Nat.le_refl _) _
  have hk1 : Blk w1 N 30 o.l := by rw [← hw1, ← hN]; exact Blk.new W _ o.l
  have HVL := Lib.hid (gRef15 o al w1 hn (by omega) (hr.kept (hN ▸ hb1)) hts)
  rw [hok] at HVL
  have HSZ := Lib.hid (show (Tryz.prog.info? 30).map (·.size) = some 26 from by kernel_rfl)
  have HN := Lib.hid hN
  have HB1 := Lib.hid hb1
  have HK1 := Lib.hid hk1
  show Calls Tryz.prog 36 #[.agg (aO o)] W _
  go_enter Tryz.func36, Tryz.ntmps36
  go_wp2_with (refine wpList_load_mid rfl 30 (.tmp 1) rfl N 0 rfl o.l _ HK1.out.range Tryz.underlying30 rfl HSZ.out ?_)
  refine HVL.out.mono ?_
  rintro e w2 ⟨rfl, hb2⟩
  have hk2 : Blk w2 N 30 o.l := HK1.out.kept (hb2.block _ HK1.out.lt)
  have hB2 : Below N W w2 := HB1.out.trans (hb2.mono (bnl9 HN.out HB1.out))
  obtain ⟨G, hG⟩ : ∃ G, w2.heap.size = G := ⟨_, rfl⟩
  have hNG : N < G := by rw [← hG]; exact hk2.lt
  obtain ⟨w3, hw3⟩ : ∃ w3, w2.alloc (.cells #[.int .i64 o.s, .int .i64 o.ch, .int .i64 o.f, .int .i64 3] 3) = w3 := ⟨_, rfl⟩
  have hk3 : Blk w3 G 3 (iC [o.s, o.ch, o.f, 3]) := by rw [← hw3, ← hG]; exact Blk.new w2 _ (iC [o.s, o.ch, o.f, 3])
  have hb3 : Below G w2 w3 := by rw [← hw3, ← hG]; exact (Below.refl _ w2).alloc (Nat.le_refl _) _
  have hk4 : Blk w3 N 30 o.l := hk2.kept (hb3.block N hNG)
  have HO3 : Hid (w3.ownsRow G 3 1 (.slice (some ⟨G, 0, none⟩) 4 4) 4 (iC [o.s, o.ch, o.f, 3])) := own_new hk3 (Nat.le_refl _) (by simp) (by simp)
  have HB3 : Hid (Below N W w3) := hB2.trans (hb3.mono (Nat.le_of_lt hNG))
  have HK4 := Lib.hid hk4
  have HZ3 : Hid (G ≤ w3.heap.size) := (by rw [← hw3, World.size_alloc, hG]; omega : G ≤ w3.heap.size)
  have c0 : w2.cell? ⟨N, 0, none⟩ = some (.int .i64 o.s) := hk2.cell 0
  have c1 : w2.cell? ⟨N, 1, none⟩ = some (.int .i64 o.ch) := hk2.cell 1
  have c2 : w2.cell? ⟨N, 2, none⟩ = some (.int .i64 o.f) := hk2.cell 2
  have c3 : w2.cell? ⟨N, 3, none⟩ = some (.int .i64 3) := by rw [← HKK.out]; exact hk2.cell 3
  have d3 : w3.cell? ⟨N, 3, none⟩ = some (.int .i64 3) := by rw [← HKK.out]; exact hk4.cell 3
  have HCA := Lib.hid (rkEntryNumbers o al w3 hn hlm (hr.kept (by rw [hN]; exact HB3.out)))
  have HMD : Hid (w3.rangeAt N 6 [.int .i64 o.nid, .int .i64 o.item, .int .i64 o.frs, .int .i64 o.ear, .int .i64 o.lat, .int .i64 o.book, .slice o.ao o.an o.ac]) := rangeE hk4
  have HSE := Lib.hid (show (Tryz.prog.info? 24).map (·.size) = some 7 from by kernel_rfl)
  clear hb2 hb1 hk1 hN hw1 hr hts hk2 hB2 hk3 hb3 hk4
  go_wp2_with (refine wpList_load_mid rfl 24 (.tmp 41) rfl N 6 rfl [.int .i64 o.nid, .int .i64 o.item, .int .i64 o.frs, .int .i64 o.ear, .int .i64 o.lat, .int .i64 o.book, .slice o.ao o.an o.ac] _ HMD.out Tryz.underlying24 rfl HSE.out ?_)
  refine HCA.out.mono ?_
  rintro e w4 ⟨o2, c2', rfl, hrd2, hb4⟩
  have ho4 := ownsRow_keptF HO3.out (fun k e => hb4.block k (own_lt HO3.out k e))
  have hz4 : G ≤ w4.heap.size := Nat.le_trans HZ3.out hb4.size
  obtain ⟨oa, cap, w5, hrun, ho5, hf5, hk5⟩ := app_intsR w4 G (.slice (some ⟨G, 0, none⟩) 4 4) 4 (7 + 2 * o.an) c2' o2 [o.s, o.ch, o.f, 3] (eN o ++ altI al) ho4 (by decide) (eN_len o al hn) (by omega) (by simp [eN]) hrd2 hz4 65
  have hB4 : Below N W w4 := HB3.out.trans (hb4.mono (bnl9 HN.out HB3.out))
  have HB5 : Hid (Below N W w5) := hB4.trans (hf5.below N (bnl9 HN.out hB4) (fun c e => by have := own_ge ho4 c e; omega))
  have HRD := Lib.hid (rdin_of ho5 (by rw [List.length_append, eN_len o al hn]; rfl))
  clear ho5 hf5 hk5 hrd2 ho4 hB4 hb4
  go_wp2_with (at_builtin; refine wpList_append_run _ rfl _ _ 65 rfl _ _ _ _ rfl rfl hrun ?_)
  clear hrun
  refine (rkNumbers w5 oa (4 + (7 + 2 * o.an)) cap ([o.s, o.ch, o.f, 3] ++ (eN o ++ altI al)) (by rw [List.length_append, eN_len o al hn]; rfl) (by omega) HRD.out).mono ?_
  rintro e w7 ⟨rfl, hb7⟩
  have HB7 : Hid (Below N W w7) := HB5.out.trans (hb7.mono (bnl9 HN.out HB5.out))
  clear hb7 HRD
  have hes : (encI ([o.s, o.ch, o.f, 3] ++ (eN o ++ altI al))).length ≤ 9 * 1000 := by
    have h1 := encI_len ([o.s, o.ch, o.f, 3] ++ (eN o ++ altI al))
    have h2 : ([o.s, o.ch, o.f, 3] ++ (eN o ++ altI al)).length = (4 + (7 + 2 * o.an)) := (by rw [List.length_append, eN_len o al hn]; rfl)
    rw [h2] at h1
    omega
  obtain ⟨S, hS⟩ : ∃ S : ByteArray, (⟨(encI ([o.s, o.ch, o.f, 3] ++ (eN o ++ altI al))).toArray⟩ : ByteArray) = S := ⟨_, rfl⟩
  have hsz : S.size ≤ 9000 := by rw [← hS, bytes_size]; exact hes
  rw [hS]
  have HS := Lib.hid hS
  have q3 : ¬ (S.size + (⟨#[]⟩ : ByteArray).size > 9223372036854775807) := by show ¬ (S.size + 0 > 9223372036854775807); omega
  have q4 : ¬ (9223372036854775807 < S.size + (⟨#[]⟩ : ByteArray).size) := by show ¬ (9223372036854775807 < S.size + 0); omega
  have HE : Hid (S ++ (⟨#[]⟩ : ByteArray) = S) := (by rw [← HS.out]; exact (bytes_app _ []).trans (by rw [List.append_nil]) : S ++ (⟨#[]⟩ : ByteArray) = S)
  clear hS hes hsz
  go_wp2_with fail
  go_ret2
  exact ⟨by first | (rw [HE.out, ← HS.out, enc15_3 o al hn HKK.out]; rfl) | (rw [← HS.out, enc15_3 o al hn HKK.out]; rfl), by rw [HN.out]; exact HB7.out⟩
set_option maxHeartbeats 8000000 in
set_option maxRecDepth 100000 in
theorem ref15Enc_4 (o : GOd) (al : List (Int × Int)) (W : World) (hn : al.length = o.an) (hlm : o.an ≤ 100) (hr : RdA W o.ao al) (hts : o.txt.size ≤ 65536) (hok : okB o al = true) (hk : o.k = 4) : Calls Tryz.prog 36 #[.agg o.l.toArray] W fun e w' => e = .returned (.tuple #[.string ⟨(encG o al).toArray⟩, .int .i64 0]) ∧ Below W.heap.size W w' := by
  have hts0 := hts
  have HKK := Lib.hid hk
  clear hk
  replace hts : o.txt.size ≤ maxLen := by unfold maxLen; omega
  obtain ⟨N, hN⟩ : ∃ N, W.heap.size = N := ⟨_, rfl⟩
  obtain ⟨w1, hw1⟩ : ∃ w1, W.alloc (.cells (aO o) 30) = w1 := ⟨_, rfl⟩
  have hb1 : Below N W w1 := by rw [← hw1, ← hN]; exact (Below.refl _ W).alloc (Nat.le_refl _) _
  have hk1 : Blk w1 N 30 o.l := by rw [← hw1, ← hN]; exact Blk.new W _ o.l
  have HVL := Lib.hid (gRef15 o al w1 hn (by omega) (hr.kept (hN ▸ hb1)) hts)
  rw [hok] at HVL
  have HSZ := Lib.hid (show (Tryz.prog.info? 30).map (·.size) = some 26 from by kernel_rfl)
  have HN := Lib.hid hN
  have HB1 := Lib.hid hb1
  have HK1 := Lib.hid hk1
  show Calls Tryz.prog 36 #[.agg (aO o)] W _
  go_enter Tryz.func36, Tryz.ntmps36
  go_wp2_with (refine wpList_load_mid rfl 30 (.tmp 1) rfl N 0 rfl o.l _ HK1.out.range Tryz.underlying30 rfl HSZ.out ?_)
  refine HVL.out.mono ?_
  rintro e w2 ⟨rfl, hb2⟩
  have hk2 : Blk w2 N 30 o.l := HK1.out.kept (hb2.block _ HK1.out.lt)
  have hB2 : Below N W w2 := HB1.out.trans (hb2.mono (bnl9 HN.out HB1.out))
  obtain ⟨G, hG⟩ : ∃ G, w2.heap.size = G := ⟨_, rfl⟩
  have hNG : N < G := by rw [← hG]; exact hk2.lt
  obtain ⟨w3, hw3⟩ : ∃ w3, w2.alloc (.cells #[.int .i64 o.s, .int .i64 o.ch, .int .i64 o.f, .int .i64 4] 3) = w3 := ⟨_, rfl⟩
  have hk3 : Blk w3 G 3 (iC [o.s, o.ch, o.f, 4]) := by rw [← hw3, ← hG]; exact Blk.new w2 _ (iC [o.s, o.ch, o.f, 4])
  have hb3 : Below G w2 w3 := by rw [← hw3, ← hG]; exact (Below.refl _ w2).alloc (Nat.le_refl _) _
  have hk4 : Blk w3 N 30 o.l := hk2.kept (hb3.block N hNG)
  have HO3 : Hid (w3.ownsRow G 3 1 (.slice (some ⟨G, 0, none⟩) 4 4) 4 (iC [o.s, o.ch, o.f, 4])) := own_new hk3 (Nat.le_refl _) (by simp) (by simp)
  have HB3 : Hid (Below N W w3) := hB2.trans (hb3.mono (Nat.le_of_lt hNG))
  have HK4 := Lib.hid hk4
  have HZ3 : Hid (G ≤ w3.heap.size) := (by rw [← hw3, World.size_alloc, hG]; omega : G ≤ w3.heap.size)
  have c0 : w2.cell? ⟨N, 0, none⟩ = some (.int .i64 o.s) := hk2.cell 0
  have c1 : w2.cell? ⟨N, 1, none⟩ = some (.int .i64 o.ch) := hk2.cell 1
  have c2 : w2.cell? ⟨N, 2, none⟩ = some (.int .i64 o.f) := hk2.cell 2
  have c3 : w2.cell? ⟨N, 3, none⟩ = some (.int .i64 4) := by rw [← HKK.out]; exact hk2.cell 3
  have d3 : w3.cell? ⟨N, 3, none⟩ = some (.int .i64 4) := by rw [← HKK.out]; exact hk4.cell 3
  have HCA := Lib.hid (rkClauseNumbers o.cl w3)
  have HMD : Hid (w3.rangeAt N 13 o.cl.l) := rangeC hk4
  have HSE := Lib.hid (show (Tryz.prog.info? 26).map (·.size) = some 8 from by kernel_rfl)
  clear hb2 hb1 hk1 hN hw1 hr hts hk2 hB2 hk3 hb3 hk4
  go_wp2_with (refine wpList_load_mid rfl 26 (.tmp 48) rfl N 13 rfl o.cl.l _ HMD.out Tryz.underlying26 rfl HSE.out ?_)
  refine HCA.out.mono ?_
  rintro e w4 ⟨o2, c2', rfl, hrd2, hb4⟩
  have ho4 := ownsRow_keptF HO3.out (fun k e => hb4.block k (own_lt HO3.out k e))
  have hz4 : G ≤ w4.heap.size := Nat.le_trans HZ3.out hb4.size
  obtain ⟨oa, cap, w5, hrun, ho5, hf5, hk5⟩ := app_intsR w4 G (.slice (some ⟨G, 0, none⟩) 4 4) 4 8 c2' o2 [o.s, o.ch, o.f, 4] o.cl.nums ho4 (by decide) rfl (by omega) (by simp [ClD.nums]) hrd2 hz4 65
  have hB4 : Below N W w4 := HB3.out.trans (hb4.mono (bnl9 HN.out HB3.out))
  have HB5 : Hid (Below N W w5) := hB4.trans (hf5.below N (bnl9 HN.out hB4) (fun c e => by have := own_ge ho4 c e; omega))
  have HRD := Lib.hid (rdin_of ho5 rfl)
  clear ho5 hf5 hk5 hrd2 ho4 hB4 hb4
  go_wp2_with (at_builtin; refine wpList_append_run _ rfl _ _ 65 rfl _ _ _ _ rfl rfl hrun ?_)
  clear hrun
  refine (rkNumbers w5 oa (4 + 8) cap ([o.s, o.ch, o.f, 4] ++ o.cl.nums) rfl (by omega) HRD.out).mono ?_
  rintro e w7 ⟨rfl, hb7⟩
  have HB7 : Hid (Below N W w7) := HB5.out.trans (hb7.mono (bnl9 HN.out HB5.out))
  clear hb7 HRD
  have hes : (encI ([o.s, o.ch, o.f, 4] ++ o.cl.nums)).length ≤ 9 * 1000 := by
    have h1 := encI_len ([o.s, o.ch, o.f, 4] ++ o.cl.nums)
    have h2 : ([o.s, o.ch, o.f, 4] ++ o.cl.nums).length = (4 + 8) := rfl
    rw [h2] at h1
    omega
  obtain ⟨S, hS⟩ : ∃ S : ByteArray, (⟨(encI ([o.s, o.ch, o.f, 4] ++ o.cl.nums)).toArray⟩ : ByteArray) = S := ⟨_, rfl⟩
  have hsz : S.size ≤ 9000 := by rw [← hS, bytes_size]; exact hes
  rw [hS]
  have HS := Lib.hid hS
  have q3 : ¬ (S.size + (⟨#[]⟩ : ByteArray).size > 9223372036854775807) := by show ¬ (S.size + 0 > 9223372036854775807); omega
  have q4 : ¬ (9223372036854775807 < S.size + (⟨#[]⟩ : ByteArray).size) := by show ¬ (9223372036854775807 < S.size + 0); omega
  have HE : Hid (S ++ (⟨#[]⟩ : ByteArray) = S) := (by rw [← HS.out]; exact (bytes_app _ []).trans (by rw [List.append_nil]) : S ++ (⟨#[]⟩ : ByteArray) = S)
  clear hS hes hsz
  go_wp2_with fail
  go_ret2
  exact ⟨by first | (rw [HE.out, ← HS.out, enc15_4 o al HKK.out]; rfl) | (rw [← HS.out, enc15_4 o al HKK.out]; rfl), by rw [HN.out]; exact HB7.out⟩
set_option maxHeartbeats 8000000 in
set_option maxRecDepth 100000 in
theorem ref15Enc_5 (o : GOd) (al : List (Int × Int)) (W : World) (hn : al.length = o.an) (hlm : o.an ≤ 100) (hr : RdA W o.ao al) (hts : o.txt.size ≤ 65536) (hok : okB o al = true) (hk : o.k = 5) : Calls Tryz.prog 36 #[.agg o.l.toArray] W fun e w' => e = .returned (.tuple #[.string ⟨(encG o al).toArray⟩, .int .i64 0]) ∧ Below W.heap.size W w' := by
  have hts0 := hts
  have HKK := Lib.hid hk
  clear hk
  replace hts : o.txt.size ≤ maxLen := by unfold maxLen; omega
  obtain ⟨N, hN⟩ : ∃ N, W.heap.size = N := ⟨_, rfl⟩
  obtain ⟨w1, hw1⟩ : ∃ w1, W.alloc (.cells (aO o) 30) = w1 := ⟨_, rfl⟩
  have hb1 : Below N W w1 := by rw [← hw1, ← hN]; exact (Below.refl _ W).alloc (Nat.le_refl _) _
  have hk1 : Blk w1 N 30 o.l := by rw [← hw1, ← hN]; exact Blk.new W _ o.l
  have HVL := Lib.hid (gRef15 o al w1 hn (by omega) (hr.kept (hN ▸ hb1)) hts)
  rw [hok] at HVL
  have HSZ := Lib.hid (show (Tryz.prog.info? 30).map (·.size) = some 26 from by kernel_rfl)
  have HN := Lib.hid hN
  have HB1 := Lib.hid hb1
  have HK1 := Lib.hid hk1
  show Calls Tryz.prog 36 #[.agg (aO o)] W _
  go_enter Tryz.func36, Tryz.ntmps36
  go_wp2_with (refine wpList_load_mid rfl 30 (.tmp 1) rfl N 0 rfl o.l _ HK1.out.range Tryz.underlying30 rfl HSZ.out ?_)
  refine HVL.out.mono ?_
  rintro e w2 ⟨rfl, hb2⟩
  have hk2 : Blk w2 N 30 o.l := HK1.out.kept (hb2.block _ HK1.out.lt)
  have hB2 : Below N W w2 := HB1.out.trans (hb2.mono (bnl9 HN.out HB1.out))
  obtain ⟨G, hG⟩ : ∃ G, w2.heap.size = G := ⟨_, rfl⟩
  have hNG : N < G := by rw [← hG]; exact hk2.lt
  obtain ⟨w3, hw3⟩ : ∃ w3, w2.alloc (.cells #[.int .i64 o.s, .int .i64 o.ch, .int .i64 o.f, .int .i64 5] 3) = w3 := ⟨_, rfl⟩
  have hk3 : Blk w3 G 3 (iC [o.s, o.ch, o.f, 5]) := by rw [← hw3, ← hG]; exact Blk.new w2 _ (iC [o.s, o.ch, o.f, 5])
  have hb3 : Below G w2 w3 := by rw [← hw3, ← hG]; exact (Below.refl _ w2).alloc (Nat.le_refl _) _
  have hk4 : Blk w3 N 30 o.l := hk2.kept (hb3.block N hNG)
  have HO3 : Hid (w3.ownsRow G 3 1 (.slice (some ⟨G, 0, none⟩) 4 4) 4 (iC [o.s, o.ch, o.f, 5])) := own_new hk3 (Nat.le_refl _) (by simp) (by simp)
  have HB3 : Hid (Below N W w3) := hB2.trans (hb3.mono (Nat.le_of_lt hNG))
  have HK4 := Lib.hid hk4
  have HZ3 : Hid (G ≤ w3.heap.size) := (by rw [← hw3, World.size_alloc, hG]; omega : G ≤ w3.heap.size)
  have c0 : w2.cell? ⟨N, 0, none⟩ = some (.int .i64 o.s) := hk2.cell 0
  have c1 : w2.cell? ⟨N, 1, none⟩ = some (.int .i64 o.ch) := hk2.cell 1
  have c2 : w2.cell? ⟨N, 2, none⟩ = some (.int .i64 o.f) := hk2.cell 2
  have c3 : w2.cell? ⟨N, 3, none⟩ = some (.int .i64 5) := by rw [← HKK.out]; exact hk2.cell 3
  have d3 : w3.cell? ⟨N, 3, none⟩ = some (.int .i64 5) := by rw [← HKK.out]; exact hk4.cell 3
  have d21 : w3.cell? ⟨N, 21, none⟩ = some (.int .i64 o.qid) := hk4.cell 21
  have d22 : w3.cell? ⟨N, 22, none⟩ = some (.int .i64 o.qf) := hk4.cell 22
  have d23 : w3.cell? ⟨N, 23, none⟩ = some (.int .i64 o.qt) := hk4.cell 23
  have d24 : w3.cell? ⟨N, 24, none⟩ = some (.int .i64 o.qp) := hk4.cell 24
  have d25 : w3.cell? ⟨N, 25, none⟩ = some (.string o.txt) := hk4.cell 25
  obtain ⟨oa, cap, w5, hrun, ho5, hf5, hk5⟩ := app_intsN w3 G (.slice (some ⟨G, 0, none⟩) 4 4) 4 4 [o.s, o.ch, o.f, 5] [o.qid, o.qf, o.qt, o.qp] HO3.out (by decide) rfl (by decide) HZ3.out 65
  have HB5 : Hid (Below N W w5) := HB3.out.trans (hf5.below N (bnl9 HN.out HB3.out) (fun c e => by have := own_ge HO3.out c e; omega))
  have HRD := Lib.hid (rdin_of ho5 rfl)
  have hk6 := HK4.out.kept (hf5.block N HK4.out.lt (fun e => by have := own_ge HO3.out _ e; omega))
  have e25 : w5.cell? ⟨N, 25, none⟩ = some (.string o.txt) := hk6.cell 25
  clear hk6
  clear ho5 hf5 hk5
  clear hb2 hb1 hk1 hN hw1 hr hts hk2 hB2 hk3 hb3 hk4
  go_wp2_with (at_builtin; refine wpList_append_run _ rfl _ _ 65 rfl _ _ _ _ rfl rfl hrun ?_)
  clear hrun
  refine (refPutString_any o.txt w5 (by unfold maxLen; omega)).mono ?_
  rintro e w6 ⟨rfl, hb6⟩
  have HRD := Lib.hid (HRD.out.kept hb6)
  have HB5 : Hid (Below N W w6) := HB5.out.trans (hb6.mono (bnl9 HN.out HB5.out))
  clear hb6
  obtain ⟨T, hT⟩ : ∃ T : ByteArray, (⟨(putSL o.txt.data.toList).toArray⟩ : ByteArray) = T := ⟨_, rfl⟩
  rw [hT]
  go_wp2_with fail
  refine (rkNumbers w6 oa (4 + 4) cap ([o.s, o.ch, o.f, 5] ++ [o.qid, o.qf, o.qt, o.qp]) rfl (by omega) HRD.out).mono ?_
  rintro e w7 ⟨rfl, hb7⟩
  have HB7 : Hid (Below N W w7) := HB5.out.trans (hb7.mono (bnl9 HN.out HB5.out))
  clear hb7 HRD
  have hes : (encI ([o.s, o.ch, o.f, 5] ++ [o.qid, o.qf, o.qt, o.qp])).length ≤ 9 * 1000 := by
    have h1 := encI_len ([o.s, o.ch, o.f, 5] ++ [o.qid, o.qf, o.qt, o.qp])
    have h2 : ([o.s, o.ch, o.f, 5] ++ [o.qid, o.qf, o.qt, o.qp]).length = (4 + 4) := rfl
    rw [h2] at h1
    omega
  obtain ⟨S, hS⟩ : ∃ S : ByteArray, (⟨(encI ([o.s, o.ch, o.f, 5] ++ [o.qid, o.qf, o.qt, o.qp])).toArray⟩ : ByteArray) = S := ⟨_, rfl⟩
  have hsz : S.size ≤ 9000 := by rw [← hS, bytes_size]; exact hes
  rw [hS]
  have HS := Lib.hid hS
  have hsT : T.size ≤ 70000 := by
    rw [← hT, bytes_size]
    exact putSL_small o.txt
  have HT := Lib.hid hT
  have q3 : ¬ (S.size + T.size > 9223372036854775807) := by omega
  have q4 : ¬ (9223372036854775807 < S.size + T.size) := by omega
  clear hS hes hsz hsT hT
  go_wp2_with fail
  go_ret2
  exact ⟨by rw [← HS.out, ← HT.out, bytes_app, enc15_5 o al HKK.out]; rfl, by rw [HN.out]; exact HB7.out⟩
theorem ref15Enc_ok (o : GOd) (al : List (Int × Int)) (W : World) (hn : al.length = o.an) (hlm : o.an ≤ 100) (hr : RdA W o.ao al) (hts : o.txt.size ≤ 65536) (hok : okB o al = true) : Calls Tryz.prog 36 #[.agg o.l.toArray] W fun e w' => e = .returned (.tuple #[.string ⟨(encG o al).toArray⟩, .int .i64 0]) ∧ Below W.heap.size W w' := by
  rcases okB_kind5 hok with h | h | h | h | h
  · exact ref15Enc_1 o al W hn hlm hr hts hok h
  · exact ref15Enc_2 o al W hn hlm hr hts hok h
  · exact ref15Enc_3 o al W hn hlm hr hts hok h
  · exact ref15Enc_4 o al W hn hlm hr hts hok h
  · exact ref15Enc_5 o al W hn hlm hr hts hok h
end Go.Proofs.YtjkiidhnmljmbaaGreatDoor
