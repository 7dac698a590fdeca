/-
  Pictures in memory; the walks of media.Valid, slices.Equal, media.Same.
-/
import Derived.WalkKit
import Derived.LoopTactic
import Derived.WalkSpells
import Derived.WalkLawsBesides
import Derived.RegionTactic
import Derived.BigRegion
import Derived.Deep.QuietTactic
import Derived.BigQuiet
import Derived.IntWalk
import Derived.Outline
import Derived.Test.YtfplajafekpccaaBlk
import Derived.Test.YtfplajafekpccaaMedPlain
import Derived.Test.YtfplajafekpccaaProg
set_option linter.unusedVariables false
set_option linter.unusedSimpArgs false
namespace Go.Proofs.Ytfplajafekpccaa
open Go.RowKit Onair
def pcs (p : Pic) : List Value := [.bool p.key, .string p.data, .int .i64 p.power]
/-- A picture that a Go value can be. -/
structure POk (p : Pic) : Prop where
  p0 : -9223372036854775808 ≤ p.power
  p1 : p.power ≤ 9223372036854775807
  sz : p.data.size ≤ maxLen
def pcells (l : List Pic) : List Value := l.flatMap pcs
theorem pcells_len (l : List Pic) : (pcells l).length = l.length * 3 := by
  induction l with
  | nil => rfl
  | cons c l ih => simp [pcells, pcs] at ih ⊢; omega
theorem pcells_at (l : List Pic) (i k : Nat) (c : Pic) (h : l[i]? = some c) (hk : k < 3) : (pcells l)[i * 3 + k]? = (pcs c)[k]? := by
  induction l generalizing i with
  | nil => simp at h
  | cons d l ih =>
    cases i with
    | zero =>
      simp at h
      subst h
      show (pcs d ++ pcells l)[0 * 3 + k]? = _
      rw [Nat.zero_mul, Nat.zero_add, List.getElem?_append_left (by simp [pcs]; exact hk)]
    | succ i =>
      show (pcs d ++ pcells l)[(i + 1) * 3 + k]? = _
      rw [List.getElem?_append_right (by simp [pcs]; omega), show (i + 1) * 3 + k - (pcs d).length = i * 3 + k by simp [pcs]; omega]
      exact ih i (by simpa using h)
theorem pcells_snoc (l : List Pic) (c : Pic) : pcells (l ++ [c]) = pcells l ++ [.bool c.key, .string c.data, .int .i64 c.power] := by simp [pcells, pcs]
/-- A slice of pictures that can be read. -/
def RdP (W : World) (oa : Option Addr) (l : List Pic) : Prop :=
  l = [] ∨ ∃ g off, oa = some ⟨g, off, none⟩ ∧ g < W.heap.size ∧ ∀ i (c : Pic), l[i]? = some c →
    W.cell? ⟨g, off + i * 3, none⟩ = some (.bool c.key) ∧ W.cell? ⟨g, off + i * 3 + 1, none⟩ = some (.string c.data) ∧ W.cell? ⟨g, off + i * 3 + 2, none⟩ = some (.int .i64 c.power)
theorem RdP.kept {W W' : World} {oa : Option Addr} {l : List Pic} (h : RdP W oa l) (hb : Below W.heap.size W W') : RdP W' oa l := by
  rcases h with h | ⟨g, off, rfl, hg, hc⟩
  · exact .inl h
  · refine .inr ⟨g, off, rfl, Nat.lt_of_lt_of_le hg hb.size, fun i c hi => ?_⟩
    obtain ⟨c0, c1, c2⟩ := hc i c hi
    exact ⟨(hb.cell (p := ⟨g, _, none⟩) hg).trans c0, (hb.cell (p := ⟨g, _, none⟩) hg).trans c1, (hb.cell (p := ⟨g, _, none⟩) hg).trans c2⟩
theorem RdP.at {W : World} {oa : Option Addr} {l : List Pic} (h : RdP W oa l) (i : Nat) (c : Pic) (hi : l[i]? = some c) : ∃ g off, oa = some ⟨g, off, none⟩ ∧ W.cell? ⟨g, off + i * 3, none⟩ = some (.bool c.key) ∧ W.cell? ⟨g, off + i * 3 + 1, none⟩ = some (.string c.data) ∧ W.cell? ⟨g, off + i * 3 + 2, none⟩ = some (.int .i64 c.power) := by
  rcases h with rfl | ⟨g, off, rfl, hg, hc⟩
  · simp at hi
  · exact ⟨g, off, rfl, hc i _ hi⟩
theorem own_slice {wr : World} {B : Nat} {t : TypeId} {size : Nat} {v : Value} {n : Nat} {xs : List Value} (h : wr.ownsRow B t size v n xs) : ∃ oa cap, v = .slice oa n cap := by
  rcases h.2 with ⟨rfl, rfl⟩ | ⟨g, cap, _, rfl, _⟩
  · exact ⟨_, _, rfl⟩
  · exact ⟨_, _, rfl⟩
theorem own_ge {wr : World} {B : Nat} {t : TypeId} {size : Nat} {v : Value} {n : Nat} {xs : List Value} (h : wr.ownsRow B t size v n xs) : ∀ k, v.ownBlock = some k → B ≤ k := fun k hk => by
  rcases h.2 with ⟨rfl, rfl⟩ | ⟨g, cap, cur, rfl, q2, q3⟩
  · simp [Value.ownBlock] at hk
  · simp [Value.ownBlock] at hk
    omega
theorem own_rdp {W : World} {B : Nat} {oa : Option Addr} {n cap : Nat} {l : List Pic} (h : W.ownsRow B 42 3 (.slice oa n cap) l.length (pcells l)) : n = l.length ∧ RdP W oa l := by
  have h' := h
  rcases h.2 with ⟨he, h0⟩ | ⟨g, cap', cur, he, q1, q2, q3⟩
  · simp at he
    have : l = [] := List.eq_nil_of_length_eq_zero h0
    exact ⟨by rw [he.2.1, h0], .inl this⟩
  · simp at he
    obtain ⟨rfl, rfl, rfl⟩ := he
    refine ⟨rfl, .inr ⟨g, 0, rfl, (Array.getElem?_eq_some_iff.1 q2).1, fun i c hi => ?_⟩⟩
    have hil : i < l.length := (List.getElem?_eq_some_iff.1 hi).1
    have key : ∀ k, k < 3 → W.cell? ⟨g, i * 3 + k, none⟩ = (pcs c)[k]? := fun k hk => by
      rw [h'.cellAt _ (by omega), pcells_at l i k c hi hk]
    rw [Nat.zero_add]
    exact ⟨key 0 (by decide), key 1 (by decide), key 2 (by decide)⟩
theorem Try.infoPic : (Try.prog.info? 42).map (fun i => (i.zero, i.size, i.bytes)) = some (some (.agg #[.bool false, .string ⟨#[]⟩, .int .i64 0]), 3, 32) := by kernel_rfl
/-- append of one picture to a slice of the call's own. -/
theorem app_pic (wr : World) (B : Nat) (v : Value) (l : List Pic) (c : Pic) (hown : wr.ownsRow B 42 3 v l.length (pcells l)) (hn : l.length ≤ 1000000) (hB : B ≤ wr.heap.size) (ty : TypeId) :
    ∃ oa cap w', (Builtin.append_ #[22, 22] ty #[v, .slice (some ⟨wr.heap.size, 0, none⟩) 1 1]).run Try.prog (wr.alloc (.cells #[.bool c.key, .string c.data, .int .i64 c.power] 42)) = .ok (.slice oa (l.length + 1) cap) w' ∧ w'.ownsRow B 42 3 (.slice oa (l.length + 1) cap) (l.length + 1) (pcells (l ++ [c])) ∧ Fr (fun k => v.ownBlock = some k) wr w' ∧ (∀ k, (Value.slice oa (l.length + 1) cap).ownBlock = some k → v.ownBlock = some k ∨ wr.heap.size ≤ k) := by
  obtain ⟨i0, hi, hz0, hz1, hz2⟩ := info_parts Try.infoPic
  have hnew : Blk (wr.alloc (.cells #[.bool c.key, .string c.data, .int .i64 c.power] 42)) wr.heap.size 42 (pcs c) := Blk.new wr _ (pcs c)
  obtain ⟨v', w', hrun, h1, h2, h3⟩ := app_own (P := Try.prog) (W := wr.alloc (.cells #[.bool c.key, .string c.data, .int .i64 c.power] 42)) B 22 ty 42 i0 _ 3 32 Try.underlying22 hi hz0 hz1 hz2 rfl (by decide) v l.length (pcells l) (hown.alloc _) ⟨wr.heap.size, 0, none⟩ 1 1 (pcs c) rfl (fun j u hj => by
      rw [show ((⟨wr.heap.size, 0, none⟩ : Addr).add j) = ⟨wr.heap.size, j, none⟩ from by unfold Addr.add; split <;> simp_all, hnew.cell]
      exact hj) (by intro u hu; simp [pcs] at hu; rcases hu with rfl | rfl | rfl <;> rfl) (by unfold maxLen; omega) (by omega) (by simp; omega)
  obtain ⟨oa, cap, rfl⟩ := own_slice h1
  refine ⟨oa, cap, w', hrun, ?_, ((Fr.refl _ wr).alloc _).trans h2 (fun _ _ h => h), fun k hk => (h3 k hk).imp_right (fun h => by simp at h; omega)⟩
  rw [pcells_snoc]
  exact h1
theorem all_take_succ (l : List Pic) (j : Nat) (c : Pic) (h : l[j]? = some c) : (l.take (j + 1)).all okPic = ((l.take j).all okPic && okPic c) := by
  have hj : j < l.length := (List.getElem?_eq_some_iff.1 h).1
  rw [List.take_add_one, h, List.all_append]
  simp
theorem all_false (l : List Pic) (j : Nat) (c : Pic) (h : l[j]? = some c) (hc : okPic c = false) : l.all okPic = false := by
  rw [List.all_eq_false]
  exact ⟨c, List.mem_of_getElem? h, by rw [hc]; decide⟩
set_option maxHeartbeats 4000000 in
set_option maxRecDepth 100000 in
theorem valid_any (i : Int) (oa : Option Addr) (cap : Nat) (l : List Pic) (W : World) (hl : l.length ≤ maxLen) (hok : ∀ p ∈ l, POk p) (h : RdP W oa l) :
    Calls Try.prog 13 #[.agg #[.int .i64 i, .slice oa l.length cap]] W fun e w' => e = .returned (.bool (validA i l)) ∧ Below W.heap.size W w' := by
  unfold maxLen at hl
  have HB0 : Hid (Below W.heap.size W (W.alloc (.cells #[.int .i64 i, .slice oa l.length cap] 24))) := (Below.refl _ W).alloc (Nat.le_refl _) _
  have H := Lib.hid h
  have HOK := Lib.hid hok
  clear h hok
  by_cases h1 : 1 ≤ i ∧ i ≤ 4611686018427387903
  · by_cases h2 : 1 ≤ l.length ∧ l.length ≤ 2000
    · cases l with
      | nil => exact absurd h2.1 (by simp)
      | cons c0 m =>
        have hv : validA i (c0 :: m) = (c0.key && (c0 :: m).all okPic) := by
          unfold validA
          rw [decide_eq_true h1, decide_eq_true h2]
          rfl
        rw [hv]
        clear hv
        have HV : Hid (∀ p ∈ c0 :: m, POk p) := HOK
        obtain ⟨g, off, rfl, d0, d1, d2⟩ := H.out.at 0 c0 rfl
        obtain ⟨h1, h1'⟩ := h1
        have hgl : g < W.heap.size := block_lt d0
        have d0' : (W.alloc (.cells #[.int .i64 i, .slice (some ⟨g, off, none⟩) (c0 :: m).length cap] 24)).cell? ⟨g, off, none⟩ = some (.bool c0.key) := by
          rw [HB0.out.cell (p := ⟨g, off, none⟩) hgl]
          simpa using d0
        generalize hL : c0 :: m = L at *
        obtain ⟨n, hn⟩ : ∃ n, L.length = n := ⟨_, rfl⟩
        have HN := Lib.hid hn
        have hk0 : (fun p : Pic => p.key) c0 = c0.key := rfl
        rw [hn] at h2 hl HB0 d0' ⊢
        obtain ⟨h2, h2'⟩ := h2
        clear hn d0 d1 d2 hL hk0
        have q0 : (0 : Int) < n := by omega
        cases hk : c0.key
        · rw [hk] at d0'
          clear hk
          go_enter Try.func13, Try.ntmps13
          go_wp2_with fail
          go_ret
          exact ⟨rfl, HB0.out⟩
        · rw [hk] at d0'
          clear hk
          rw [Bool.true_and]
          go_enter Try.func13, Try.ntmps13
          go_wp2_with fail
          clear d0'
          go_loopw [34] (fun x wr => ∃ j : Nat, j ≤ n ∧ x = .int .i64 j ∧ Hid ((L.take j).all okPic = true) ∧ Hid (Below W.heap.size W wr)) (fun x _ => n - (intOf x).toNat)
          case atStart => exact ⟨0, Nat.zero_le _, rfl, rfl, HB0⟩
          case round =>
            clear HB0
            obtain ⟨j, hj, rfl, HA, HB⟩ := hrel
            by_cases hjn : j = n
            · have q1 : ¬ (j : Int) < n := by omega
              have HE : Hid (L.all okPic = true) := by
                have := HA.out
                rw [hjn, ← HN.out, List.take_length] at this
                exact this
              clear hjn
              go_wp2_with fail
              go_ret
              rw [HE.out]
              exact ⟨rfl, HB.out⟩
            · have q1 : (j : Int) < n := by omega
              obtain ⟨c, hc⟩ : ∃ c, L[j]? = some c := ⟨_, List.getElem?_eq_getElem (by rw [HN.out]; omega)⟩
              have HC := Lib.hid hc
              obtain ⟨g', off', e', d0, d1, d2⟩ := (H.out.kept HB.out).at j c hc
              have hp := HV.out c (List.mem_of_getElem? hc)
              obtain ⟨p0, p1, sz⟩ := hp
              simp at e'
              obtain ⟨rfl, rfl⟩ := e'
              unfold maxLen at sz
              have HB2 : Hid (Below W.heap.size W (wr.alloc (.cells #[.bool c.key, .string c.data, .int .i64 c.power] 42))) := HB.out.alloc HB.out.size _
              have HT := Lib.hid (all_take_succ L j c hc)
              have HF := Lib.hid (all_false L j c hc)
              clear hc hjn
              obtain ⟨k, dt, pw⟩ := c
              dsimp only at *
              by_cases r1 : dt.size ≤ 400
              · by_cases r2 : 0 ≤ pw
                · by_cases r3 : pw ≤ 1000000
                  · have HA2 : Hid ((L.take (j + 1)).all okPic = true) := by
                      show _ = _
                      rw [HT.out, HA.out, (okPic_iff _).2 ⟨r1, r2, r3⟩]
                      rfl
                    go_wp2_with fail
                    go_roundw
                    case rel => exact ⟨j + 1, by omega, by go_num, HA2, HB2⟩
                    case measure => simp [intOf]; omega
                  · have HX : Hid (L.all okPic = false) := HF.out (by
                      rw [Bool.eq_false_iff, ne_eq, okPic_iff]
                      exact fun e => r3 e.2.2)
                    go_wp2_with fail
                    go_ret
                    rw [HX.out]
                    exact ⟨rfl, HB2.out⟩
                · have HX : Hid (L.all okPic = false) := HF.out (by
                    rw [Bool.eq_false_iff, ne_eq, okPic_iff]
                    exact fun e => r2 e.2.1)
                  go_wp2_with fail
                  go_ret
                  rw [HX.out]
                  exact ⟨rfl, HB2.out⟩
              · have HX : Hid (L.all okPic = false) := HF.out (by
                  rw [Bool.eq_false_iff, ne_eq, okPic_iff]
                  exact fun e => r1 e.1)
                go_wp2_with fail
                go_ret
                rw [HX.out]
                exact ⟨rfl, HB2.out⟩
    · have hv : validA i l = false := by
        unfold validA
        rw [decide_eq_false h2]
        simp
      rw [hv]
      clear hv H HOK
      obtain ⟨n, hn⟩ : ∃ n, l.length = n := ⟨_, rfl⟩
      rw [hn] at h2 hl HB0 ⊢
      clear hn
      obtain ⟨h1, h1'⟩ := h1
      by_cases h3 : n < 1
      · have h3' : (n : Int) < 1 := by omega
        go_enter Try.func13, Try.ntmps13
        go_wp2_with fail
        go_ret
        exact ⟨rfl, HB0.out⟩
      · have h3' : ¬ (n : Int) < 1 := by omega
        have h4 : (2000 : Int) < n := by omega
        go_enter Try.func13, Try.ntmps13
        go_wp2_with fail
        go_ret
        exact ⟨rfl, HB0.out⟩
  · have hv : validA i l = false := by
      unfold validA
      rw [decide_eq_false h1]
      simp
    rw [hv]
    clear hv H HOK
    by_cases h3 : i < 1
    · go_enter Try.func13, Try.ntmps13
      go_wp2_with fail
      go_ret
      exact ⟨rfl, HB0.out⟩
    · have h4 : 4611686018427387903 < i := by omega
      go_enter Try.func13, Try.ntmps13
      go_wp2_with fail
      go_ret
      exact ⟨rfl, HB0.out⟩
end Go.Proofs.Ytfplajafekpccaa
