/-
  Orders: an acknowledgment that a sender receives, below the last one: the postings behind it are to be sent anew.
-/
import Derived.Test.YtjkiidhnmljmbaaDoorOrH
import Derived.Test.YtjkiidhnmljmbaaDoorOrK
set_option linter.unusedVariables false
set_option linter.unusedSimpArgs false
namespace Go.Proofs.YtjkiidhnmljmbaaDoor
open Go.RowKit
attribute [local go_sem] Oper.semAt_some
/-- The postings first to j - 1 are as if they were never sent. -/
def clrL (L : List Pst) (first j : Nat) : List Pst := L.mapIdx fun i p => if first ≤ i ∧ i < j then ⟨p.fr, false, 0⟩ else p
theorem clrL_len (L : List Pst) (first j : Nat) : (clrL L first j).length = L.length := by simp [clrL]
theorem clrL_get (L : List Pst) (first j : Nat) (i : Nat) : (clrL L first j)[i]? = (L[i]?).map fun p => if first ≤ i ∧ i < j then ⟨p.fr, false, 0⟩ else p := by simp [clrL]
theorem clrL_start (L : List Pst) (first : Nat) : clrL L first first = L := by
  refine List.ext_getElem? fun i => ?_
  rw [clrL_get]
  cases L[i]? with
  | none => rfl
  | some p => simp only [Option.map_some]; rw [if_neg (by omega)]
theorem clrL_at (L : List Pst) (first j : Nat) : (clrL L first j)[j]? = L[j]? := by
  rw [clrL_get]
  cases L[j]? with
  | none => rfl
  | some p => simp only [Option.map_some]; rw [if_neg (by omega)]
theorem clrL_succ (L : List Pst) (first j : Nat) (p : Pst) (hf : first ≤ j) (hp : L[j]? = some p) : clrL L first (j + 1) = (clrL L first j).set j ⟨p.fr, false, 0⟩ := by
  have hl := (List.getElem?_eq_some_iff.1 hp).1
  refine List.ext_getElem? fun i => ?_
  rw [clrL_get, List.getElem?_set, clrL_len]
  by_cases e : j = i
  · subst e
    rw [if_pos rfl, if_pos hl, hp]
    simp only [Option.map_some]
    rw [if_pos ⟨hf, by omega⟩]
  · rw [if_neg e, clrL_get]
    cases L[i]? with
    | none => rfl
    | some q =>
      simp only [Option.map_some]
      by_cases h : first ≤ i ∧ i < j
      · rw [if_pos h, if_pos ⟨h.1, by omega⟩]
      · rw [if_neg h, if_neg (by omega)]
theorem SnAt.put {A : World} {B bs g n cap j k : Nat} {tn : Int} {L : List Pst} {p : Pst} (h : SnAt A B bs tn (.slice (some ⟨g, 0, none⟩) n cap) L k) (hp : L[j]? = some p) (b : Bool) (a : Int) :
    SnAt ((A.setCell ⟨g, j * 28 + 26, none⟩ (.bool b)).setCell ⟨g, j * 28 + 27, none⟩ (.int .i64 a)) B bs tn (.slice (some ⟨g, 0, none⟩) n cap) (L.set j ⟨p.fr, b, a⟩) k := by
  have hgb : bs ≠ g := fun e => h.ne g rfl e.symm
  have ho := h.own
  obtain ⟨oa, cap', he⟩ := own_slice ho
  simp only [Value.slice.injEq] at he
  obtain ⟨_, hn, _⟩ := he
  subst hn
  have hset := ownsRow_set (ownsRow_set ho (j * 28 + 26) (.bool b)) (j * 28 + 27) (.int .i64 a)
  rw [← pCells_set ⟨p.fr, b, a⟩ p L 0 j hp rfl] at hset
  exact ⟨(h.blk.other _ (fun e => hgb e.symm) _).other _ (fun e => hgb e.symm) _, by rw [List.length_set]; exact hset, h.ge, h.ne⟩
set_option maxHeartbeats 8000000 in
set_option maxRecDepth 100000 in
theorem srecv_down (W : World) (B bs : Nat) (tn : Int) (vp : Value) (L : List Pst) (k sq : Nat) (h : SnAt W B bs tn vp L k) (t0 : 0 ≤ tn) (t1 : tn < 3) (hk : sq < k) (hsq : k ≤ L.length) (hL : L.length ≤ 200) :
    Calls Tryd.prog 25 #[.pointer (some ⟨bs, 0, none⟩), .agg (msgA 2 tn sq 0 0 0 0 0 0 0)] W fun e w' => (∃ v, e = .returned v) ∧ SnAt w' B bs tn vp (clrL L sq L.length) sq ∧ Fr (fun c => c = bs ∨ vp.ownBlock = some c) W w' := by
  obtain ⟨N, hN⟩ : ∃ N, W.heap.size = N := ⟨_, rfl⟩
  obtain ⟨w1, hw1⟩ : ∃ w1, W.alloc (.cells (msgA 2 tn sq 0 0 0 0 0 0 0) 32) = w1 := ⟨_, rfl⟩
  have hb1 : Below N W w1 := by rw [← hw1, ← hN]; exact (Below.refl _ W).alloc (Nat.le_refl _) _
  have hk1 : Blk w1 N 32 (msgA 2 tn sq 0 0 0 0 0 0 0).toList := by rw [← hw1, ← hN]; exact Blk.new W _ _
  have hs1 : SnAt w1 B bs tn vp L k := h.below (by rw [hN]; exact hb1)
  obtain ⟨ov, cv, rfl⟩ := own_slice h.own
  obtain ⟨n, hn⟩ : ∃ n, L.length = n := ⟨_, rfl⟩
  obtain ⟨P, hP⟩ : ∃ P, w1.heap.size = P := ⟨_, rfl⟩
  have up : ∀ W', Below P w1 W' → SnAt W' B bs tn (.slice ov L.length cv) L k := fun W' hW => hs1.below (by rw [hP]; exact hW)
  have HSA := Lib.hid up
  have HBK : Hid (∀ W', Below P w1 W' → _) := fun W' hW => (up W' hW).blk
  have HKP : Hid (∀ W, Below P w1 W → W.rangeAt N 0 (msgA 2 tn sq 0 0 0 0 0 0 0).toList ∧ W.cell? ⟨bs, 0, none⟩ = some (.int .i64 tn) ∧ W.cell? ⟨bs, 2, none⟩ = some (.slice ov n cv) ∧ W.cell? ⟨bs, 3, none⟩ = some (.int .i64 k) ∧ W.cell? ⟨N, 2, none⟩ = some (.int .i64 sq)) := fun W' hW => by
    have hb := (up W' hW).blk
    have hm := hk1.kept (hW.block N (by rw [← hP]; exact hk1.lt))
    exact ⟨hm.range, hb.cell 0, by rw [← hn]; exact hb.cell 2, hb.cell 3, hm.cell 2⟩
  have HLV : Hid (∀ W', Below P w1 W' → _) := fun W' hW => slives_any bs _ _ _ W' (up W' hW).blk
  have HTK := Lib.hid (fun W' => takes_ack tn sq W' t0 t1 (by omega) (by omega))
  have HSZ := Lib.hid (show (Tryd.prog.info? 32).map (·.size) = some 31 from by kernel_rfl)
  have HN := Lib.hid hN
  have HP := Lib.hid hP
  have HB1 := Lib.hid hb1
  have HNP : Hid (N ≤ P) := (by rw [← hP]; exact bnl9 hN hb1 : N ≤ P)
  have hgt : ¬ (sq : Int) > (n : Int) := by omega
  have hlt : (sq : Int) < (k : Int) := by omega
  have hsn : sq < n := by omega
  have hn2 : n ≤ 200 := by omega
  have h0 := Lib.hid h
  have HNL := Lib.hid hn
  have HMB : Hid (∀ W', Below P w1 W' → Blk W' N 32 (msgA 2 tn sq 0 0 0 0 0 0 0).toList) := fun W' hW => hk1.kept (hW.block N (by rw [← hP]; exact hk1.lt))
  have HQ : Hid (Below P w1 w1.drew) := (Below.refl _ _).drew
  dsimp only [msgA] at hw1
  dsimp only [msgA]
  clear hb1 hk1 hs1 h up hn hP
  go_enter Tryd.func25, Tryd.ntmps25
  go_upto_region 1 with (fail)
  refine wp_region_held_drew (S := fun W => W.rangeAt N 0 (msgA 2 tn sq 0 0 0 0 0 0 0).toList ∧ W.cell? ⟨bs, 0, none⟩ = some (.int .i64 tn) ∧ W.cell? ⟨bs, 2, none⟩ = some (.slice ov n cv) ∧ W.cell? ⟨bs, 3, none⟩ = some (.int .i64 k) ∧ W.cell? ⟨N, 2, none⟩ = some (.int .i64 sq)) (by kernel_rfl) ?_ (fun hHeld => ?_)
  · exact HKP.out _ HQ.out
  generalize w1.drew = z0 at HQ hHeld ⊢
  refine wpAnyH_take (i := 0) (oi := ⟨some 5, _, _, _, _, _⟩) (v := ?vp1) rfl (by kernel_rfl) (by kernel_rfl) (by kernel_rfl) (fun _ _ _ h => h) (Or.inl ⟨by rfl, ?yp1⟩) (by assumption) ?rp1
  case yp1 => (intro w hSw; (try dsimp only at hSw); go_simp; (try (with_reducible rfl)))
  try simp only [Act.put, List.setIfInBounds_toArray, List.set_cons_zero, List.set_cons_succ]
  refine wpAnyH_ready (rs := [1]) (by kernel_rfl) (by simp) (AllReadyH.cons (o := ⟨some 6, _, _, _, _, _⟩) rfl (fun K hK => ?_) AllReadyH.nil)
  go_simp
  refine (HLV.out _ HQ.out).mono ?_
  rintro e w' ⟨rfl, rfl⟩
  go_simp
  refine hK.out _ _ ?_ (fun hHeld2 => ?_)
  · exact HKP.out _ HQ.out
  clear hK K hHeld
  rename _ => hHeld
  try simp only [Act.put, List.setIfInBounds_toArray, List.set_cons_zero, List.set_cons_succ]
  refine wpAnyH_take (i := 2) (oi := ⟨some 7, _, _, _, _, _⟩) (v := ?vp2) rfl (by kernel_rfl) (by kernel_rfl) (by kernel_rfl) (fun _ _ _ h => h) (Or.inl ⟨by rfl, ?yp2⟩) (by assumption) ?rp2
  case yp2 => (intro w hSw; (try dsimp only at hSw); go_simp; (try (with_reducible rfl)))
  try simp only [Act.put, List.setIfInBounds_toArray, List.set_cons_zero, List.set_cons_succ]
  refine wpAnyH_take (i := 3) (oi := ⟨some 8, _, _, _, _, _⟩) (v := ?vp3) rfl (by kernel_rfl) (by kernel_rfl) (by kernel_rfl) (fun _ _ _ h => h) (Or.inl ⟨by rfl, ?yp3⟩) (by assumption) ?rp3
  case yp3 => (intro w hSw; (try dsimp only at hSw); go_simp; (try (with_reducible rfl)))
  try simp only [Act.put, List.setIfInBounds_toArray, List.set_cons_zero, List.set_cons_succ]
  refine wpAnyH_take (i := 4) (oi := ⟨some 9, _, _, _, _, _⟩) (v := ?vp4) rfl (by kernel_rfl) (by kernel_rfl) (by kernel_rfl) (fun _ _ _ h => h) (Or.inl ⟨by rfl, ?yp4⟩) (by assumption) ?rp4
  case yp4 => (intro w hSw; (try dsimp only at hSw); go_simp; (try (with_reducible rfl)))
  try simp only [Act.put, List.setIfInBounds_toArray, List.set_cons_zero, List.set_cons_succ]
  refine wpAnyH_take (i := 5) (oi := ⟨some 10, _, _, _, _, _⟩) (v := ?vp5) rfl (by kernel_rfl) (by kernel_rfl) (by kernel_rfl) (fun _ _ _ h => h) (Or.inl ⟨by rfl, ?yp5⟩) (by assumption) ?rp5
  case yp5 => (intro w hSw; (try dsimp only at hSw); go_simp; (try (with_reducible rfl)))
  try simp only [Act.put, List.setIfInBounds_toArray, List.set_cons_zero, List.set_cons_succ]
  refine wpAnyH_take (i := 6) (oi := ⟨some 11, _, _, _, _, _⟩) (v := ?vp6) rfl (by kernel_rfl) (by kernel_rfl) (by kernel_rfl) (fun _ _ _ h => h) (Or.inl ⟨by rfl, ?yp6⟩) (by assumption) ?rp6
  case yp6 => (intro w hSw; (try dsimp only at hSw); go_simp; (try (with_reducible rfl)))
  try simp only [Act.put, List.setIfInBounds_toArray, List.set_cons_zero, List.set_cons_succ]
  refine wpAnyH_take (i := 7) (oi := ⟨some 12, _, _, _, _, _⟩) (v := ?vp7) rfl (by kernel_rfl) (by kernel_rfl) (by kernel_rfl) (fun _ _ _ h => h) (Or.inl ⟨by rfl, ?yp7⟩) (by assumption) ?rp7
  case yp7 => (intro w hSw; (try dsimp only at hSw); go_simp; (try (with_reducible rfl)))
  try simp only [Act.put, List.setIfInBounds_toArray, List.set_cons_zero, List.set_cons_succ]
  refine wpAnyH_take (i := 8) (oi := ⟨some 13, _, _, _, _, _⟩) (v := .agg (msgA 2 tn sq 0 0 0 0 0 0 0)) rfl (by kernel_rfl) (by kernel_rfl) (by kernel_rfl) (fun _ _ _ h => h) (yieldsIf_load_mid (by rfl) 32 (.tmp 3) rfl N 0 rfl (msgA 2 tn sq 0 0 0 0 0 0 0).toList _ (fun _ h => h.1) Tryd.underlying32 rfl HSZ.out) (by assumption) ?_
  try simp only [Act.put, List.setIfInBounds_toArray, List.set_cons_zero, List.set_cons_succ]
  refine wpAnyH_ready (rs := [9]) (by kernel_rfl) (by simp) (AllReadyH.cons (o := ⟨some 14, _, _, _, _, _⟩) rfl (fun K hK => ?_) AllReadyH.nil)
  go_simp
  refine (HTK.out _).mono ?_
  rintro e z1 ⟨rfl, hbz⟩
  have HQ : Hid (Below P w1 z1) := HQ.out.trans (hbz.mono (bnl9 HP.out HQ.out))
  clear hbz
  go_simp
  refine hK.out _ _ ?_ (fun hHeld2 => ?_)
  · exact HKP.out _ HQ.out
  clear hK K hHeld
  rename _ => hHeld
  try simp only [Act.put, List.setIfInBounds_toArray, List.set_cons_zero, List.set_cons_succ]
  refine wpAnyH_take (i := 10) (oi := ⟨some 15, _, _, _, _, _⟩) (v := ?vp9) rfl (by kernel_rfl) (by kernel_rfl) (by kernel_rfl) (fun _ _ _ h => h) (Or.inl ⟨by rfl, ?yp9⟩) (by assumption) ?rp9
  case yp9 => (intro w hSw; (try dsimp only at hSw); go_simp; (try (with_reducible rfl)))
  try simp only [Act.put, List.setIfInBounds_toArray, List.set_cons_zero, List.set_cons_succ]
  refine wpAnyH_take (i := 11) (oi := ⟨some 16, _, _, _, _, _⟩) (v := ?vp10) rfl (by kernel_rfl) (by kernel_rfl) (by kernel_rfl) (fun _ _ _ h => h) (Or.inl ⟨by rfl, ?yp10⟩) (by assumption) ?rp10
  case yp10 => (intro w hSw; (try dsimp only at hSw); go_simp; (try (with_reducible rfl)))
  try simp only [Act.put, List.setIfInBounds_toArray, List.set_cons_zero, List.set_cons_succ]
  refine wpAnyH_take (i := 12) (oi := ⟨some 17, _, _, _, _, _⟩) (v := ?vp11) rfl (by kernel_rfl) (by kernel_rfl) (by kernel_rfl) (fun _ _ _ h => h) (Or.inl ⟨by rfl, ?yp11⟩) (by assumption) ?rp11
  case yp11 => (intro w hSw; (try dsimp only at hSw); go_simp; (try (with_reducible rfl)))
  try simp only [Act.put, List.setIfInBounds_toArray, List.set_cons_zero, List.set_cons_succ]
  refine wpAnyH_take (i := 13) (oi := ⟨some 18, _, _, _, _, _⟩) (v := ?vp12) rfl (by kernel_rfl) (by kernel_rfl) (by kernel_rfl) (fun _ _ _ h => h) (Or.inl ⟨by rfl, ?yp12⟩) (by assumption) ?rp12
  case yp12 => (intro w hSw; (try dsimp only at hSw); go_simp; (try (with_reducible rfl)))
  try simp only [Act.put, List.setIfInBounds_toArray, List.set_cons_zero, List.set_cons_succ]
  refine wpAnyH_take (i := 14) (oi := ⟨some 19, _, _, _, _, _⟩) (v := ?vp13) rfl (by kernel_rfl) (by kernel_rfl) (by kernel_rfl) (fun _ _ _ h => h) (Or.inl ⟨by rfl, ?yp13⟩) (by assumption) ?rp13
  case yp13 => (intro w hSw; (try dsimp only at hSw); go_simp; (try (with_reducible rfl)))
  try simp only [Act.put, List.setIfInBounds_toArray, List.set_cons_zero, List.set_cons_succ]
  refine wpAnyH_take (i := 15) (oi := ⟨some 20, _, _, _, _, _⟩) (v := ?vp14) rfl (by kernel_rfl) (by kernel_rfl) (by kernel_rfl) (fun _ _ _ h => h) (Or.inl ⟨by rfl, ?yp14⟩) (by assumption) ?rp14
  case yp14 => (intro w hSw; (try dsimp only at hSw); go_simp; (try (with_reducible rfl)))
  try simp only [Act.put, List.setIfInBounds_toArray, List.set_cons_zero, List.set_cons_succ]
  refine wpAnyH_take (i := 16) (oi := ⟨some 21, _, _, _, _, _⟩) (v := ?vp15) rfl (by kernel_rfl) (by kernel_rfl) (by kernel_rfl) (fun _ _ _ h => h) (Or.inl ⟨by rfl, ?yp15⟩) (by assumption) ?rp15
  case yp15 => (intro w hSw; (try dsimp only at hSw); go_simp; (try (with_reducible rfl)))
  try simp only [Act.put, List.setIfInBounds_toArray, List.set_cons_zero, List.set_cons_succ]
  refine wpAnyH_take (i := 17) (oi := ⟨some 22, _, _, _, _, _⟩) (v := ?vp16) rfl (by kernel_rfl) (by kernel_rfl) (by kernel_rfl) (fun _ _ _ h => h) (Or.inl ⟨by rfl, ?yp16⟩) (by assumption) ?rp16
  case yp16 => (intro w hSw; (try dsimp only at hSw); go_simp; (try (with_reducible rfl)))
  try simp only [Act.put, List.setIfInBounds_toArray, List.set_cons_zero, List.set_cons_succ]
  refine wpAnyH_take (i := 18) (oi := ⟨some 23, _, _, _, _, _⟩) (v := ?vp17) rfl (by kernel_rfl) (by kernel_rfl) (by kernel_rfl) (fun _ _ _ h => h) (Or.inl ⟨by rfl, ?yp17⟩) (by assumption) ?rp17
  case yp17 => (intro w hSw; (try dsimp only at hSw); go_simp; (try (with_reducible rfl)))
  try simp only [Act.put, List.setIfInBounds_toArray, List.set_cons_zero, List.set_cons_succ]
  refine wpAnyH_take (i := 19) (oi := ⟨some 24, _, _, _, _, _⟩) (v := ?vp18) rfl (by kernel_rfl) (by kernel_rfl) (by kernel_rfl) (fun _ _ _ h => h) (Or.inl ⟨by rfl, ?yp18⟩) (by assumption) ?rp18
  case yp18 => (intro w hSw; (try dsimp only at hSw); go_simp; (try (with_reducible rfl)))
  try simp only [Act.put, List.setIfInBounds_toArray, List.set_cons_zero, List.set_cons_succ]
  refine wpAnyH_take (i := 20) (oi := ⟨some 25, _, _, _, _, _⟩) (v := .bool false) rfl (by kernel_rfl) (by kernel_rfl) (by kernel_rfl) (fun _ _ _ h => h) (Or.inl ⟨by rfl, ?yp19⟩) (by assumption) ?rp19
  case yp19 => (intro w hSw; (try dsimp only at hSw); go_simp; (first | done | (with_reducible rfl) | exact (decide_eq_false hgt) | simpa using (decide_eq_false hgt)))
  try simp only [Act.put, List.setIfInBounds_toArray, List.set_cons_zero, List.set_cons_succ]
  refine wpAnyH_take (i := 21) (oi := ⟨some 26, _, _, _, _, _⟩) (v := ?vp20) rfl (by kernel_rfl) (by kernel_rfl) (by kernel_rfl) (fun _ _ _ h => h) (Or.inl ⟨by rfl, ?yp20⟩) (by assumption) ?rp20
  case yp20 => (intro w hSw; (try dsimp only at hSw); go_simp; (try (with_reducible rfl)))
  try simp only [Act.put, List.setIfInBounds_toArray, List.set_cons_zero, List.set_cons_succ]
  refine wpAnyH_done (by kernel_rfl) ?_ _
  clear hHeld
  go_upto_region 2 with (fail)
  have HQ2 : Hid (Below P w1 _) := HQ.out.drew
  refine wp_region_held_drew (S := fun W => W.rangeAt N 0 (msgA 2 tn sq 0 0 0 0 0 0 0).toList ∧ W.cell? ⟨bs, 0, none⟩ = some (.int .i64 tn) ∧ W.cell? ⟨bs, 2, none⟩ = some (.slice ov n cv) ∧ W.cell? ⟨bs, 3, none⟩ = some (.int .i64 k) ∧ W.cell? ⟨N, 2, none⟩ = some (.int .i64 sq)) (by kernel_rfl) ?_ (fun hHeld => ?_)
  · exact HKP.out _ HQ2.out
  generalize World.drew _ = z2 at HQ2 hHeld ⊢
  refine wpAnyH_take (i := 0) (oi := ⟨some 27, _, _, _, _, _⟩) (v := ?vq1) rfl (by kernel_rfl) (by kernel_rfl) (by kernel_rfl) (fun _ _ _ h => h) (Or.inl ⟨by rfl, ?yq1⟩) (by assumption) ?rq1
  case yq1 => (intro w hSw; (try dsimp only at hSw); go_simp; (try (with_reducible rfl)))
  try simp only [Act.put, List.setIfInBounds_toArray, List.set_cons_zero, List.set_cons_succ]
  refine wpAnyH_take (i := 1) (oi := ⟨some 28, _, _, _, _, _⟩) (v := ?vq2) rfl (by kernel_rfl) (by kernel_rfl) (by kernel_rfl) (fun _ _ _ h => h) (Or.inl ⟨by rfl, ?yq2⟩) (by assumption) ?rq2
  case yq2 => (intro w hSw; (try dsimp only at hSw); go_simp; (try (with_reducible rfl)))
  try simp only [Act.put, List.setIfInBounds_toArray, List.set_cons_zero, List.set_cons_succ]
  refine wpAnyH_take (i := 2) (oi := ⟨some 29, _, _, _, _, _⟩) (v := ?vq3) rfl (by kernel_rfl) (by kernel_rfl) (by kernel_rfl) (fun _ _ _ h => h) (Or.inl ⟨by rfl, ?yq3⟩) (by assumption) ?rq3
  case yq3 => (intro w hSw; (try dsimp only at hSw); go_simp; (try (with_reducible rfl)))
  try simp only [Act.put, List.setIfInBounds_toArray, List.set_cons_zero, List.set_cons_succ]
  refine wpAnyH_take (i := 3) (oi := ⟨some 30, _, _, _, _, _⟩) (v := ?vq4) rfl (by kernel_rfl) (by kernel_rfl) (by kernel_rfl) (fun _ _ _ h => h) (Or.inl ⟨by rfl, ?yq4⟩) (by assumption) ?rq4
  case yq4 => (intro w hSw; (try dsimp only at hSw); go_simp; (try (with_reducible rfl)))
  try simp only [Act.put, List.setIfInBounds_toArray, List.set_cons_zero, List.set_cons_succ]
  refine wpAnyH_take (i := 4) (oi := ⟨some 31, _, _, _, _, _⟩) (v := ?vq5) rfl (by kernel_rfl) (by kernel_rfl) (by kernel_rfl) (fun _ _ _ h => h) (Or.inl ⟨by rfl, ?yq5⟩) (by assumption) ?rq5
  case yq5 => (intro w hSw; (try dsimp only at hSw); go_simp; (try (with_reducible rfl)))
  try simp only [Act.put, List.setIfInBounds_toArray, List.set_cons_zero, List.set_cons_succ]
  refine wpAnyH_take (i := 5) (oi := ⟨some 32, _, _, _, _, _⟩) (v := ?vq6) rfl (by kernel_rfl) (by kernel_rfl) (by kernel_rfl) (fun _ _ _ h => h) (Or.inl ⟨by rfl, ?yq6⟩) (by assumption) ?rq6
  case yq6 => (intro w hSw; (try dsimp only at hSw); go_simp; (try (with_reducible rfl)))
  try simp only [Act.put, List.setIfInBounds_toArray, List.set_cons_zero, List.set_cons_succ]
  refine wpAnyH_take (i := 6) (oi := ⟨some 33, _, _, _, _, _⟩) (v := .bool true) rfl (by kernel_rfl) (by kernel_rfl) (by kernel_rfl) (fun _ _ _ h => h) (Or.inl ⟨by rfl, ?yq7⟩) (by assumption) ?rq7
  case yq7 => (intro w hSw; (try dsimp only at hSw); go_simp; (first | done | (with_reducible rfl) | exact (decide_eq_true hlt) | simpa using (decide_eq_true hlt)))
  try simp only [Act.put, List.setIfInBounds_toArray, List.set_cons_zero, List.set_cons_succ]
  refine wpAnyH_done (by kernel_rfl) ?_ _
  clear hHeld
  have hS := HKP.out _ HQ2.out
  have HSN := Lib.hid (HSA.out _ HQ2.out)
  have HM2 := Lib.hid (HMB.out _ HQ2.out)
  have c2 : z2.cell? ⟨N, 2, none⟩ = some (.int .i64 sq) := hS.2.2.2.2
  clear hS
  go_wp2_with fail
  clear c2
  obtain ⟨g, rfl⟩ : ∃ g, ov = some ⟨g, 0, none⟩ := by
    obtain ⟨p, hp⟩ : ∃ p, L[sq]? = some p := ⟨L[sq]'(by rw [HNL.out]; omega), List.getElem?_eq_getElem _⟩
    obtain ⟨g, cap, hv, _⟩ := HSN.out.cells hp
    simp only [Value.slice.injEq] at hv
    exact ⟨g, hv.1⟩
  have hgb : g ≠ bs := HSN.out.ne g rfl
  have hgN : g ≠ N := by
    intro e
    have := own_lt (h0.out).own g rfl
    have := HN.out
    omega
  have HF2 : Hid (Fr (fun c => c = g) w1 z2) := Fr.under _ (by rw [HP.out]; exact HQ2.out)
  go_loopw [4] (fun vi wr => ∃ i, sq ≤ i ∧ i ≤ n ∧ vi = .int .i64 i ∧ Hid (SnAt wr B bs tn (.slice (some ⟨g, 0, none⟩) n cv) (clrL L sq i) k) ∧ Hid (Blk wr N 32 (msgA 2 tn sq 0 0 0 0 0 0 0).toList) ∧ Hid (Fr (fun c => c = g) w1 wr)) (fun v _ => n - (intOf v).toNat)
  case atStart => exact ⟨sq, Nat.le_refl _, by omega, rfl, by rw [clrL_start]; rw [HNL.out] at HSN; exact HSN, HM2, HF2⟩
  case round =>
    clear HSN HM2 HF2
    obtain ⟨i, hi1, hi2, rfl, HS, HMK, HFR⟩ := hrel
    have c2 := HS.out.blk.cell 2
    simp only [List.getElem?_cons_zero, List.getElem?_cons_succ] at c2
    by_cases h : i < n
    · have q1 : (i : Int) < (n : Int) := by omega
      have q2 : (0 : Int) ≤ (i : Int) := by omega
      obtain ⟨p, hp⟩ : ∃ p, L[i]? = some p := ⟨L[i]'(by rw [HNL.out]; exact h), List.getElem?_eq_getElem _⟩
      have HPC : Hid ((clrL L sq i)[i]? = some p) := (clrL_at L sq i).trans hp
      have HSU : Hid (clrL L sq (i + 1) = (clrL L sq i).set i ⟨p.fr, false, 0⟩) := clrL_succ L sq i p hi1 hp
      obtain ⟨g', cap, hv, _, _, hc⟩ := HS.out.cells HPC.out
      simp only [Value.slice.injEq, Option.some.injEq, Addr.mk.injEq] at hv
      obtain rfl := hv.1.1
      clear hv hp
      go_upto_region 6 with (fail)
      refine wp_region_held_drew (S := fun W => W.cell? ⟨bs, 2, none⟩ = some (.slice (some ⟨g, 0, none⟩) n cv)) (by kernel_rfl) ?_ (fun hHeld => ?_)
      · exact c2
      have hsn2 := HS.out.below (Below.refl _ _).drew
      have hmk2 := HMK.out.kept (W' := wr.drew) rfl
      have hfr2 := HFR.out.drew
      have d26 : wr.drew.cell? ⟨g, i * 28 + 26, none⟩ = some (.bool p.sent) := hc 26 (by omega)
      have d27 : wr.drew.cell? ⟨g, i * 28 + 27, none⟩ = some (.int .i64 p.at_) := hc 27 (by omega)
      have z26 : wr.drew.frozen? ⟨g, i * 28 + 26, none⟩ = false := own_frozen hsn2.own _
      have z27 : wr.drew.frozen? ⟨g, i * 28 + 27, none⟩ = false := own_frozen hsn2.own _
      have x2 : wr.drew.cell? ⟨bs, 2, none⟩ = some (.slice (some ⟨g, 0, none⟩) n cv) := c2
      clear c2 hc HS HMK HFR
      generalize World.drew _ = z at hsn2 hmk2 hfr2 d26 d27 z26 z27 x2 hHeld ⊢
      refine wpAnyH_take (i := 0) (oi := ⟨some 45, _, _, _, _, _⟩) (v := ?vr1) rfl (by kernel_rfl) (by kernel_rfl) (by kernel_rfl) (fun _ _ _ h => h) (Or.inl ⟨by rfl, ?yr1⟩) (by assumption) ?rr1
      case yr1 => (intro w hSw; (try dsimp only at hSw); go_simp; (try (with_reducible rfl)))
      try simp only [Act.put, List.setIfInBounds_toArray, List.set_cons_zero, List.set_cons_succ]
      refine wpAnyH_take (i := 1) (oi := ⟨some 46, _, _, _, _, _⟩) (v := ?vr2) rfl (by kernel_rfl) (by kernel_rfl) (by kernel_rfl) (fun _ _ _ h => h) (Or.inl ⟨by rfl, ?yr2⟩) (by assumption) ?rr2
      case yr2 => (intro w hSw; (try dsimp only at hSw); go_simp; (try (with_reducible rfl)))
      try simp only [Act.put, List.setIfInBounds_toArray, List.set_cons_zero, List.set_cons_succ]
      refine wpAnyH_take (i := 2) (oi := ⟨some 47, _, _, _, _, _⟩) (v := ?vr3) rfl (by kernel_rfl) (by kernel_rfl) (by kernel_rfl) (fun _ _ _ h => h) (Or.inl ⟨by rfl, ?yr3⟩) (by assumption) ?rr3
      case yr3 => (intro w hSw; (try dsimp only at hSw); go_simp; (try (with_reducible rfl)))
      try simp only [Act.put, List.setIfInBounds_toArray, List.set_cons_zero, List.set_cons_succ]
      refine wpAnyH_take (i := 3) (oi := ⟨some 48, _, _, _, _, _⟩) (v := ?vr4) rfl (by kernel_rfl) (by kernel_rfl) (by kernel_rfl) (fun _ _ _ h => h) (Or.inl ⟨by rfl, ?yr4⟩) (by assumption) ?rr4
      case yr4 => (intro w hSw; (try dsimp only at hSw); go_simp; (try (with_reducible rfl)))
      try simp only [Act.put, List.setIfInBounds_toArray, List.set_cons_zero, List.set_cons_succ]
      refine wpAnyH_take (i := 4) (oi := ⟨some 49, _, _, _, _, _⟩) (v := ?vr5) rfl (by kernel_rfl) (by kernel_rfl) (by kernel_rfl) (fun _ _ _ h => h) (Or.inl ⟨by rfl, ?yr5⟩) (by assumption) ?rr5
      case yr5 => (intro w hSw; (try dsimp only at hSw); go_simp; (try (with_reducible rfl)))
      try simp only [Act.put, List.setIfInBounds_toArray, List.set_cons_zero, List.set_cons_succ]
      refine wpAnyH_take (i := 5) (oi := ⟨some 50, _, _, _, _, _⟩) (v := ?vr6) rfl (by kernel_rfl) (by kernel_rfl) (by kernel_rfl) (fun _ _ _ h => h) (Or.inl ⟨by rfl, ?yr6⟩) (by assumption) ?rr6
      case yr6 => (intro w hSw; (try dsimp only at hSw); go_simp; (try (with_reducible rfl)))
      try simp only [Act.put, List.setIfInBounds_toArray, List.set_cons_zero, List.set_cons_succ]
      refine wpAnyH_take (i := 6) (oi := ⟨some 51, _, _, _, _, _⟩) (v := ?vr7) rfl (by kernel_rfl) (by kernel_rfl) (by kernel_rfl) (fun _ _ _ h => h) (Or.inl ⟨by rfl, ?yr7⟩) (by assumption) ?rr7
      case yr7 => (intro w hSw; (try dsimp only at hSw); go_simp; (try (with_reducible rfl)))
      try simp only [Act.put, List.setIfInBounds_toArray, List.set_cons_zero, List.set_cons_succ]
      refine wpAnyH_take (i := 7) (oi := ⟨some 52, _, _, _, _, _⟩) (v := ?vr8) rfl (by kernel_rfl) (by kernel_rfl) (by kernel_rfl) (fun _ _ _ h => h) (Or.inl ⟨by rfl, ?yr8⟩) (by assumption) ?rr8
      case yr8 => (intro w hSw; (try dsimp only at hSw); go_simp; (try (with_reducible rfl)))
      try simp only [Act.put, List.setIfInBounds_toArray, List.set_cons_zero, List.set_cons_succ]
      refine wpAnyH_take (i := 8) (oi := ⟨some 53, _, _, _, _, _⟩) (v := ?vr9) rfl (by kernel_rfl) (by kernel_rfl) (by kernel_rfl) (fun _ _ _ h => h) (Or.inl ⟨by rfl, ?yr9⟩) (by assumption) ?rr9
      case yr9 => (intro w hSw; (try dsimp only at hSw); go_simp; (try (with_reducible rfl)))
      try simp only [Act.put, List.setIfInBounds_toArray, List.set_cons_zero, List.set_cons_succ]
      refine wpAnyH_take (i := 9) (oi := ⟨some 54, _, _, _, _, _⟩) (v := ?vr10) rfl (by kernel_rfl) (by kernel_rfl) (by kernel_rfl) (fun _ _ _ h => h) (Or.inl ⟨by rfl, ?yr10⟩) (by assumption) ?rr10
      case yr10 => (intro w hSw; (try dsimp only at hSw); go_simp; (try (with_reducible rfl)))
      try simp only [Act.put, List.setIfInBounds_toArray, List.set_cons_zero, List.set_cons_succ]
      refine wpAnyH_take (i := 10) (oi := ⟨some 55, _, _, _, _, _⟩) (v := ?vr11) rfl (by kernel_rfl) (by kernel_rfl) (by kernel_rfl) (fun _ _ _ h => h) (Or.inl ⟨by rfl, ?yr11⟩) (by assumption) ?rr11
      case yr11 => (intro w hSw; (try dsimp only at hSw); go_simp; (try (with_reducible rfl)))
      try simp only [Act.put, List.setIfInBounds_toArray, List.set_cons_zero, List.set_cons_succ]
      refine wpAnyH_take (i := 11) (oi := ⟨some 56, _, _, _, _, _⟩) (v := ?vr12) rfl (by kernel_rfl) (by kernel_rfl) (by kernel_rfl) (fun _ _ _ h => h) (Or.inl ⟨by rfl, ?yr12⟩) (by assumption) ?rr12
      case yr12 => (intro w hSw; (try dsimp only at hSw); go_simp; (try (with_reducible rfl)))
      try simp only [Act.put, List.setIfInBounds_toArray, List.set_cons_zero, List.set_cons_succ]
      refine wpAnyH_ready (rs := [12]) (by kernel_rfl) (by simp) (AllReadyH.cons (o := ⟨none, _, _, _, _, _⟩) rfl (fun K hK => ?_) AllReadyH.nil)
      go_simp
      refine hK.out _ _ ?_ (fun hHeld2 => ?_)
      · exact (World.cell?_setCell_far _ _ _ _ (show g ≠ bs by omega)).trans x2
      clear hK K hHeld
      rename _ => hHeld
      try simp only [Act.put, List.setIfInBounds_toArray, List.set_cons_zero, List.set_cons_succ]
      refine wpAnyH_take (i := 13) (oi := ⟨some 57, _, _, _, _, _⟩) (v := ?vr13) rfl (by kernel_rfl) (by kernel_rfl) (by kernel_rfl) (fun _ _ _ h => h) (Or.inl ⟨by rfl, ?yr13⟩) (by assumption) ?rr13
      case yr13 => (intro w hSw; (try dsimp only at hSw); go_simp; (try (with_reducible rfl)))
      try simp only [Act.put, List.setIfInBounds_toArray, List.set_cons_zero, List.set_cons_succ]
      refine wpAnyH_take (i := 14) (oi := ⟨some 58, _, _, _, _, _⟩) (v := ?vr14) rfl (by kernel_rfl) (by kernel_rfl) (by kernel_rfl) (fun _ _ _ h => h) (Or.inl ⟨by rfl, ?yr14⟩) (by assumption) ?rr14
      case yr14 => (intro w hSw; (try dsimp only at hSw); go_simp; (try (with_reducible rfl)))
      try simp only [Act.put, List.setIfInBounds_toArray, List.set_cons_zero, List.set_cons_succ]
      refine wpAnyH_ready (rs := [15]) (by kernel_rfl) (by simp) (AllReadyH.cons (o := ⟨none, _, _, _, _, _⟩) rfl (fun K hK => ?_) AllReadyH.nil)
      go_simp
      refine hK.out _ _ ?_ (fun hHeld2 => ?_)
      · exact (World.cell?_setCell_far _ _ _ _ (show g ≠ bs by omega)).trans ((World.cell?_setCell_far _ _ _ _ (show g ≠ bs by omega)).trans x2)
      clear hK K hHeld
      rename _ => hHeld
      try simp only [Act.put, List.setIfInBounds_toArray, List.set_cons_zero, List.set_cons_succ]
      refine wpAnyH_done (by kernel_rfl) ?_ _
      clear hHeld
      go_wp2_with fail
      clear x2 d26 d27 z26 z27
      go_roundw
      case rel => exact ⟨i + 1, by omega, by omega, by go_num, by rw [HSU.out]; exact (hsn2.put HPC.out false 0), ((hmk2.other _ (show g ≠ N by omega) _).other _ (show g ≠ N by omega) _), ((hfr2.setCell ⟨g, i * 28 + 26, none⟩ _ (.inl rfl)).setCell ⟨g, i * 28 + 27, none⟩ _ (.inl rfl))⟩
      case measure => simp [intOf]; omega
    · have q1 : ¬ (i : Int) < (n : Int) := by omega
      have e : i = n := by omega
      subst e
      have c3 := HS.out.blk.cell 3
      have f3 := HS.out.blk.frozen 3
      simp only [List.getElem?_cons_zero, List.getElem?_cons_succ] at c3
      have m2 := HMK.out.cell 2
      simp only [msgA, List.getElem?_cons_zero, List.getElem?_cons_succ] at m2
      clear h
      go_wp2_with fail
      first | go_ret | (refine bodyPost_end (results_none rfl _ _ _) rfl ?_)
      have hnl := HNL.out
      subst hnl
      exact ⟨⟨_, rfl⟩, ⟨HS.out.blk.set 3 _, ownsRow_keptF HS.out.own (fun c e => Below.heap_setCell _ _ _ _ (fun h => HS.out.ne c e h)), HS.out.ge, HS.out.ne⟩, ((Fr.under _ (by rw [HN.out]; exact HB1.out)).trans HFR.out (fun c _ e => .inr (by rw [e]; rfl))).setCell ⟨bs, 3, none⟩ _ (.inl (.inl rfl))⟩
end Go.Proofs.YtjkiidhnmljmbaaDoor
