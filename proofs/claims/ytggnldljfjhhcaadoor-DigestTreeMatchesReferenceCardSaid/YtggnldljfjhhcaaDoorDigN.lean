/-
  The helpers of the laws of package digest: few, hex, binary, left, collide.
-/
import Derived.WalkKit
import Derived.LoopTactic
import Derived.WalkSpells
import Derived.WalkLawsBesides
import Derived.IntWalk
import Derived.Outline
import Derived.Deep.QuietTactic
import Derived.BigQuiet
import Derived.Deep.RegionLaw
import Derived.Deep.RegionHeld3
import Derived.Deep.DrawnRows
import Derived.Deep.AppendLies
import Derived.Laws.EntriesVeiled
import Derived.Lib.Hide
import Derived.Laws.OwnMore
import Derived.Test.YtggnldljfjhhcaaDoorDigG
set_option linter.unusedVariables false
set_option linter.unusedSimpArgs false
namespace Go.Proofs.YtggnldljfjhhcaaDoor
open Go.RowKit Onair
attribute [local go_sem ↓] Go.wp_at_zero Go.wp_at_succ
theorem Fr.cell {S : Nat → Prop} {A B : World} (h : Fr S A B) (p : Addr) (hp : p.block < A.heap.size) (hs : ¬ S p.block) : B.cell? p = A.cell? p := by
  have e := h.block p.block hp hs
  obtain ⟨b, o, s⟩ := p
  cases s <;> simp only [World.cell?, e] <;> rfl
/-- A list of strings of the call's own. -/
def OwnS (B : Nat) (v : Value) (xs : List ByteArray) (W : World) : Prop := W.ownsRow B 9 1 v xs.length (xs.map Value.string) ∧ B ≤ W.heap.size
theorem step_appO {ops : Array Oper} {o : Oper} {a : Act} {K : Act → World → Prop} {Q : Exit → Act → World → Prop} {E : Prop} {B : Nat} {v : Value} {xs : List ByteArray} {W : World} {R : ByteArray} (hgd : o.guard = none) (s x : Operand)
    (ho : o.op = .call { callee := .builtin .append, args := #[s, x], argTypes := #[22, 22] }) (hs : a.eval s = v) (hx : a.eval x = .slice (some ⟨W.heap.size, 0, none⟩) 1 1)
    (h : Hid (OwnS B v xs W)) (hl : xs.length ≤ 1000000)
    (hK : ∀ oa cap w', Hid (OwnS B (.slice oa (xs ++ [R]).length cap) (xs ++ [R]) w') → Hid (Fr (fun k => B ≤ k) W w') → K (a.put o.dst (.slice oa (xs ++ [R]).length cap)) w') :
    if Region.wanted o (yielded ops a.tmps) = true then Oper.wp Tryd.prog o a (W.alloc (.cells #[.string R] 9)) K Q else E := by
  have hw : Region.wanted o (yielded ops a.tmps) = true := by simp [Region.wanted, hgd]
  rw [if_pos hw]
  obtain ⟨v', w', hrun, h1, h2, h3⟩ := app_str W B v xs.length (xs.map Value.string) R h.out.1 hl h.out.2 o.type
  obtain ⟨oa, cap, rfl⟩ := own_slice h1
  have hge := own_ge h.out.1
  have e : (xs ++ [R]).length = xs.length + 1 := by simp
  have := hK oa cap w' ⟨by rw [e, List.map_append]; exact h1, Nat.le_trans h.out.2 h2.size⟩ (h2.mono (fun k hk => hge k hk))
  unfold Oper.wp
  simp [execOp, ho, resolve, invoke, builtin, hs, hx, hrun, Result.andThen]
  rw [e] at this
  exact this
theorem OwnS.kept {B : Nat} {v : Value} {xs : List ByteArray} {W W' : World} (h : OwnS B v xs W) (hb : Below W.heap.size W W') : OwnS B v xs W' :=
  ⟨ownsRow_keptF h.1 (fun k hk => hb.block _ (own_lt h.1 k hk)), Nat.le_trans h.2 hb.size⟩
theorem min_cut (s : ByteArray) (b : Nat) : ∃ (m : Nat) (T : ByteArray), m ≤ s.size ∧ m ≤ b ∧ T.size = m ∧ min (s.size : Int) (b : Int) = (m : Int) ∧ s.extract 0 m = T := by
  refine ⟨min b s.size, s.extract 0 (min b s.size), by omega, by omega, by simp, ?_, rfl⟩
  omega
def SomeS (w : World) (n : Nat) (e : Ending) (w' : World) : Prop := ∃ oa cap L, e = .returned (.slice oa L.length cap) ∧ L.length ≤ n ∧ SzB 60 L ∧ L.length ≤ cap ∧ cap ≤ 9223372036854775807 ∧ RdS w' oa L ∧ Below w.heap.size w w'
set_option maxHeartbeats 2000000 in
theorem few_any (oa : Option Addr) (len cap n : Nat) (ts : Nat → ByteArray) (w : World) (hn : n ≤ 1000) (hlm : len ≤ 9223372036854775807) (hts : ∀ i, (ts i).size ≤ maxLen) (hr : len = 0 ∨ ∃ b off, oa = some ⟨b, off, none⟩ ∧ b < w.heap.size ∧ ∀ i, i < len → w.cell? ⟨b, off + i, none⟩ = some (.string (ts i))) :
    Calls Tryd.prog 11 #[.slice oa len cap, .int .i64 (n : Int)] w (SomeS w n) := by
  have HR := Lib.hid hr
  have HTS := Lib.hid hts
  clear hr hts
  go_enter Tryd.func11, Tryd.ntmps11
  go_wp2_with fail
  go_loopw [5, 6] (fun v i wr => ∃ (k : Nat) (L : List ByteArray) (ob : Option Addr) (cb : Nat), k ≤ n ∧ k ≤ len ∧ i = .int .i64 k ∧ L.length = k ∧ v = .slice ob k cb ∧ Hid (SzB 60 L) ∧ Hid (OwnS w.heap.size (.slice ob L.length cb) L wr) ∧ Hid (Below w.heap.size w wr)) (fun _ i _ => n - (intOf i).toNat)
  case atStart => exact ⟨0, [], none, 0, Nat.zero_le _, Nat.zero_le _, rfl, rfl, rfl, fun x hx => by simp at hx, ⟨World.ownsRow_nil _ _ _ _, Nat.le_refl _⟩, Below.refl _ _⟩
  case round =>
    obtain ⟨k, L, ob, cb, hk, hkl, rfl, hLk, rfl, HZ, HO, HB⟩ := hrel
    by_cases h : k < len ∧ k < n
    · obtain ⟨h1, h2⟩ := h
      have q1 : (k : Int) < (len : Int) := by omega
      have q2 : (k : Int) < (n : Int) := by omega
      obtain ⟨b, off, rfl, hb, hc⟩ := (HR.out).resolve_left (by omega)
      have c0 := (HB.out.cell (p := ⟨b, off + k, none⟩) hb).trans (hc k h1)
      have hts := HTS.out k
      unfold maxLen at hts
      obtain ⟨x, hx⟩ : ∃ x, ts k = x := ⟨_, rfl⟩
      rw [hx] at c0 hts
      obtain ⟨m, T, m1, m2, m3, m4, m5⟩ := min_cut x 60
      rw [show ((60 : Nat) : Int) = 60 from rfl] at m4
      have k0 : (0 : Int) ≤ (m : Int) := by omega
      have k1 : (m : Int) ≤ (x.size : Int) := by omega
      have hlL : L.length ≤ 1000000 := by omega
      have hbr : b < wr.heap.size := by have := HB.out.size; omega
      have HZ2 : Hid (SzB 60 (L ++ [T])) := fun y hy => by
        rcases List.mem_append.1 hy with hy | hy
        · exact HZ.out y hy
        · rw [List.mem_singleton] at hy; subst hy; omega
      have HO1 : Hid (OwnS w.heap.size (.slice ob L.length cb) L wr.drew) := HO.out.kept (Below.refl _ _).drew
      rw [hLk] at HO1
      have e2 : (L ++ [T]).length = k + 1 := by simp [hLk]
      have E2 := Lib.hid e2
      have HLK := Lib.hid hLk
      clear HZ HO hx hc m2 m3 e2 hLk
      go_wp2_with fail
      go_region_held3 (fun W => W.cell? ⟨b, off + k, none⟩ = some (.string x)) (first | go_keep | exact (HF.out.cell ⟨b, off + k, none⟩ hbr (by show ¬ _ ≤ b; omega)).trans c0)
        ((refine step_appO (by rfl) _ _ (by rfl) (by rfl) (by rfl) HO1 hlL ?_; intro ob2 cb2 w3 HO2 HF))
      have HB2 : Hid (Below w.heap.size w w3) := HB.out.drew.trans (HF.out.below _ (by have := HB.out.size; show _ ≤ wr.heap.size; omega) (fun k hk => hk))
      clear HB c0
      go_wp2_with fail
      go_roundw
      case rel => exact ⟨k + 1, L ++ [T], ob2, cb2, by omega, by omega, by go_num, E2.out, by rw [HLK.out], HZ2, HO2, HB2⟩
      case measure => simp [intOf]; omega
    · have HE := own_rds HO.out.1
      rcases (show (¬ (k : Int) < (len : Int)) ∨ ((k : Int) < (len : Int) ∧ ¬ (k : Int) < (n : Int)) from by omega) with h1 | ⟨h1, h2⟩
      all_goals
        clear h
        have HE2 := Lib.hid HE
        have HLK := Lib.hid hLk
        clear HE hLk
        go_wp2_with fail
        go_ret
        exact ⟨ob, cb, L, by rw [HLK.out]; rfl, by rw [HLK.out]; exact hk, HZ.out, HE2.out.2.1, HE2.out.2.2.1, HE2.out.2.2.2, HB.out⟩
def hexD (n : Nat) : UInt8 := if n < 10 then UInt8.ofNat (48 + n) else UInt8.ofNat (87 + n)
def hexL (l : List UInt8) : List UInt8 := l.flatMap fun b => [hexD (b.toNat / 16), hexD (b.toNat % 16)]
theorem hexL_snoc (l : List UInt8) (b : UInt8) : hexL (l ++ [b]) = hexL l ++ [hexD (b.toNat / 16), hexD (b.toNat % 16)] := by simp [hexL]
theorem hexL_len (l : List UInt8) : (hexL l).length = 2 * l.length := by
  induction l with
  | nil => rfl
  | cons b l ih => simp [hexL] at ih ⊢; omega
theorem hexE (q : Nat) (h : q < 16) : (⟨#[48, 49, 50, 51, 52, 53, 54, 55, 56, 57, 97, 98, 99, 100, 101, 102]⟩ : ByteArray).extract q (q + 1) = ⟨#[hexD q]⟩ := by
  have : ∀ q : Fin 16, (⟨#[48, 49, 50, 51, 52, 53, 54, 55, 56, 57, 97, 98, 99, 100, 101, 102]⟩ : ByteArray).extract q.val (q.val + 1) = ⟨#[hexD q.val]⟩ := by decide +kernel
  exact this ⟨q, h⟩
set_option maxHeartbeats 2000000 in
theorem hex_any (s : ByteArray) (w : World) (hs : s.size ≤ 1000000) :
    Calls Tryd.prog 30 #[.string s] w fun e w' => e = .returned (.string ⟨(hexL s.data.toList).toArray⟩) ∧ Below w.heap.size w w' := by
  go_enter Tryd.func30, Tryd.ntmps30
  go_wp2_with fail
  go_loopw [3, 4] (fun v i wr => ∃ (k : Nat) (H : ByteArray), k ≤ s.size ∧ i = .int .i64 k ∧ v = .string H ∧ H.size ≤ 2 * k ∧ Hid (H.data.toList = hexL (s.data.toList.take k)) ∧ Hid (Below w.heap.size w wr)) (fun _ i _ => s.size - (intOf i).toNat)
  case atStart => exact ⟨0, ⟨#[]⟩, Nat.zero_le _, rfl, rfl, Nat.zero_le _, rfl, Below.refl _ _⟩
  case round =>
    obtain ⟨k, H, hk, rfl, rfl, hz, HH, HB⟩ := hrel
    by_cases h : k = s.size
    · have HE : Hid (H = ⟨(hexL s.data.toList).toArray⟩) := by
        have := HH.out
        rw [h, List.take_of_length_le (by rw [blen]; exact Nat.le_refl _)] at this
        show H = _
        rw [← this]
      have q1 : ¬ (k : Int) < (s.size : Int) := by omega
      clear h HH
      go_wp2_with fail
      go_ret
      exact ⟨by rw [HE.out]; rfl, HB.out⟩
    · have hlt : k < s.size := by omega
      have q1 : (k : Int) < (s.size : Int) := by omega
      obtain ⟨c, hc⟩ : ∃ c : UInt8, s[k] = c := ⟨_, rfl⟩
      have hb := c.toNat_lt
      go_wp2_with fail
      go_quiet (fail)
      rw [hexE _ (by omega), hexE _ (by omega)]
      obtain ⟨J, hJ⟩ : ∃ J, H ++ ⟨#[hexD (c.toNat / 16)]⟩ ++ ⟨#[hexD (c.toNat % 16)]⟩ = J := ⟨_, rfl⟩
      rw [hJ]
      have HJ : Hid (J.data.toList = hexL (s.data.toList.take (k + 1))) := by
        show _ = _
        rw [List.take_succ_eq_append_getElem (by rw [blen]; exact hlt), hexL_snoc, ← HH.out, ← hJ]
        have e : s.data.toList[k]'(by rw [blen]; exact hlt) = c := by rw [← hc]; rfl
        rw [e]
        simp [ByteArray.data_append]
      have hJz : J.size ≤ 2 * (k + 1) := by
        rw [← blen, HJ.out, hexL_len, List.length_take]
        omega
      have HB2 : Hid (Below w.heap.size w (wr.drewN nq)) := HB.out.trans ⟨rfl, rfl, rfl, Nat.le_refl _, fun _ _ => rfl⟩
      generalize wr.drewN nq = w3 at HB2 ⊢
      clear hJ HH HB hc h
      go_wp2_with fail
      go_roundw
      case rel => exact ⟨k + 1, J, by omega, by go_num, rfl, hJz, HJ, HB2⟩
      case measure => simp [intOf]; omega
end Go.Proofs.YtggnldljfjhhcaaDoor
