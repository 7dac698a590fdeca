/-
  The walks of digest.Proof and its closure.
  The walk of digest.Proof.
  digest.Proof: its path is memory of the call's own.
-/
import Derived.WalkKit
import Derived.LoopTactic
import Derived.WalkSpells
import Derived.WalkLawsBesides
import Derived.IntWalk
import Derived.Outline
import Derived.Deep.QuietTactic
import Derived.BigQuiet
import Derived.Deep.RegionLaw
import Derived.Deep.RegionHeld3
import Derived.Deep.DrawnRows
import Derived.Deep.AppendLies
import Derived.Laws.EntriesVeiled
import Derived.Lib.Hide
import Derived.Test.YtfpcdlpfmlaakaaGreatDoorDgD
set_option linter.unusedVariables false
set_option linter.unusedSimpArgs false
namespace Go.Proofs.YtfpcdlpfmlaakaaGreatDoor
open Go.RowKit Onair
attribute [local go_sem ↓] Go.wp_at_zero Go.wp_at_succ
theorem own_slice {wr : World} {B : Nat} {t : TypeId} {size : Nat} {v : Value} {n : Nat} {xs : List Value} (h : wr.ownsRow B t size v n xs) : ∃ oa cap, v = .slice oa n cap := by
  rcases h.2 with ⟨rfl, rfl⟩ | ⟨g, cap, _, rfl, _⟩
  · exact ⟨_, _, rfl⟩
  · exact ⟨_, _, rfl⟩
theorem own_ge {wr : World} {B : Nat} {t : TypeId} {size : Nat} {v : Value} {n : Nat} {xs : List Value} (h : wr.ownsRow B t size v n xs) : ∀ k, v.ownBlock = some k → B ≤ k := fun k hk => by
  rcases h.2 with ⟨rfl, rfl⟩ | ⟨g, cap, cur, rfl, q2, q3⟩
  · simp [Value.ownBlock] at hk
  · simp [Value.ownBlock] at hk
    omega
theorem own_lt {wr : World} {B : Nat} {t : TypeId} {size : Nat} {v : Value} {n : Nat} {xs : List Value} (h : wr.ownsRow B t size v n xs) : ∀ k, v.ownBlock = some k → k < wr.heap.size := fun k hk => by
  rcases h.2 with ⟨rfl, rfl⟩ | ⟨g, cap, cur, rfl, q2, q3⟩
  · simp [Value.ownBlock] at hk
  · simp [Value.ownBlock] at hk
    subst hk
    exact (Array.getElem?_eq_some_iff.1 q3.1).1
theorem ownsRow_keptF {W W' : World} {B : Nat} {t : TypeId} {size : Nat} {v : Value} {n : Nat} {xs : List Value} (h : W.ownsRow B t size v n xs) (hk : ∀ k, v.ownBlock = some k → W'.heap[k]? = W.heap[k]?) : W'.ownsRow B t size v n xs := by
  refine ⟨h.1, ?_⟩
  rcases h.2 with h2 | ⟨g, cap, cur, rfl, q2, q3, q4⟩
  · exact .inl h2
  · exact .inr ⟨g, cap, cur, rfl, q2, (hk g rfl).trans q3, q4⟩
theorem Tryz.infoStr : (Tryz.prog.info? 9).map (fun i => (i.zero, i.size, i.bytes)) = some (some (.string ⟨#[]⟩), 1, 16) := by kernel_rfl
theorem app_str (wr : World) (B : Nat) (v : Value) (n : Nat) (xs : List Value) (x : ByteArray) (hown : wr.ownsRow B 9 1 v n xs) (hn : n ≤ 1000000) (hB : B ≤ wr.heap.size) (ty : TypeId) :
    ∃ v' w', (Builtin.append_ #[63, 63] ty #[v, .slice (some ⟨wr.heap.size, 0, none⟩) 1 1]).run Tryz.prog (wr.alloc (.cells #[.string x] 9)) = .ok v' w' ∧ w'.ownsRow B 9 1 v' (n + 1) (xs ++ [.string x]) ∧ Fr (fun k => v.ownBlock = some k) wr w' ∧ (∀ k, v'.ownBlock = some k → v.ownBlock = some k ∨ wr.heap.size ≤ k) := by
  obtain ⟨i0, hi, hz0, hz1, hz2⟩ := info_parts Tryz.infoStr
  have hnew : Blk (wr.alloc (.cells #[.string x] 9)) wr.heap.size 9 [.string x] := Blk.new wr _ _
  obtain ⟨v', w', hrun, h1, h2, h3⟩ := app_own (P := Tryz.prog) (W := wr.alloc (.cells #[.string x] 9)) B 63 ty 9 i0 (.string ⟨#[]⟩) 1 16 Tryz.underlying63 hi hz0 hz1 hz2 rfl (by decide) v n xs (hown.alloc _) ⟨wr.heap.size, 0, none⟩ 1 1 [.string x] rfl (fun j u hj => by
      rw [show ((⟨wr.heap.size, 0, none⟩ : Addr).add j) = ⟨wr.heap.size, j, none⟩ from by unfold Addr.add; split <;> simp_all, hnew.cell]
      exact hj) (by intro u hu; simp at hu; subst hu; rfl) (by unfold maxLen; omega) (by omega) (by simp; omega)
  exact ⟨v', w', hrun, h1, ((Fr.refl _ wr).alloc _).trans h2 (fun _ _ h => h), fun k hk => (h3 k hk).imp_right (fun h => by simp at h; omega)⟩
/-- A list of strings under way in a box of the call's own, beside a box with a function. -/
structure PI (w0 : World) (P : Nat) (ft : TypeId) (fq : Value) (v : Value) (xs : List ByteArray) (W : World) : Prop where
  p : Blk W P 63 [v]
  o : W.ownsRow (P + 2) 9 1 v xs.length (xs.map Value.string)
  q : Blk W (P + 1) ft [fq]
  hp : w0.heap.size = P
  bel : Below w0.heap.size w0 W
theorem PI.below {w0 : World} {P : Nat} {ft : TypeId} {fq v : Value} {xs : List ByteArray} {W W' : World} (h : PI w0 P ft fq v xs W) (hb : Below W.heap.size W W') : PI w0 P ft fq v xs W' :=
  ⟨h.p.kept (hb.block _ h.p.lt), ownsRow_keptF h.o (fun k hk => hb.block _ (own_lt h.o k hk)), h.q.kept (hb.block _ h.q.lt), h.hp, h.bel.trans (hb.mono h.bel.size)⟩
theorem PI.app {w0 : World} {P : Nat} {ft : TypeId} {fq v : Value} {xs : List ByteArray} {W : World} (h : PI w0 P ft fq v xs W) (hx : xs.length ≤ 1000000) (R : ByteArray) (ty : TypeId) :
    ∃ oa cap w', (Builtin.append_ #[63, 63] ty #[v, .slice (some ⟨W.heap.size, 0, none⟩) 1 1]).run Tryz.prog (W.alloc (.cells #[.string R] 9)) = .ok (.slice oa (xs ++ [R]).length cap) w' ∧
      w'.cell? ⟨P, 0, none⟩ = some v ∧ w'.frozen? ⟨P, 0, none⟩ = false ∧ P < w'.heap.size ∧ PI w0 P ft fq (.slice oa (xs ++ [R]).length cap) (xs ++ [R]) (w'.setCell ⟨P, 0, none⟩ (.slice oa (xs ++ [R]).length cap)) := by
  have hq := h.q.lt
  obtain ⟨v', w', hrun, h1, h2, h3⟩ := app_str W (P + 2) v xs.length (xs.map Value.string) R h.o hx (by omega) ty
  obtain ⟨oa, cap, rfl⟩ := own_slice h1
  have e : (xs ++ [R]).length = xs.length + 1 := by simp
  have hge := own_ge h.o
  have hge1 := own_ge h1
  have hpw : Blk w' P 63 [v] := h.p.kept (h2.block _ h.p.lt (fun e => by have := hge _ e; omega))
  have hqw : Blk w' (P + 1) ft [fq] := h.q.kept (h2.block _ h.q.lt (fun e => by have := hge _ e; omega))
  refine ⟨oa, cap, w', by rw [e]; exact hrun, hpw.cell 0, hpw.frozen 0, hpw.lt, ?_, ?_, ?_, h.hp, ?_⟩
  · exact hpw.set 0 _
  · rw [e, List.map_append]
    refine ownsRow_keptF h1 (fun k hk => ?_)
    have := hge1 k hk
    exact Below.heap_setCell _ _ _ _ (by show k ≠ P; omega)
  · exact hqw.other _ (by show P ≠ P + 1; omega) _
  · have hh := h.hp
    exact (h.bel.trans (h2.below _ h.bel.size (fun k hk => by have := hge k hk; omega))).setCell (by show _ ≤ P; omega) _
theorem step_app {ops : Array Oper} {o : Oper} {a : Act} {K : Act → World → Prop} {Q : Exit → Act → World → Prop} {E : Prop} {w0 : World} {P : Nat} {ft : TypeId} {fq v : Value} {xs : List ByteArray} {W : World} {R : ByteArray} (hgd : o.guard = none) (s x : Operand)
    (ho : o.op = .call { callee := .builtin .append, args := #[s, x], argTypes := #[63, 63] }) (hs : a.eval s = v) (hx : a.eval x = .slice (some ⟨W.heap.size, 0, none⟩) 1 1)
    (h : Hid (PI w0 P ft fq v xs W)) (hl : xs.length ≤ 1000000)
    (hK : ∀ oa cap w', w'.cell? ⟨P, 0, none⟩ = some v → w'.frozen? ⟨P, 0, none⟩ = false → P < w'.heap.size → Hid (PI w0 P ft fq (.slice oa (xs ++ [R]).length cap) (xs ++ [R]) (w'.setCell ⟨P, 0, none⟩ (.slice oa (xs ++ [R]).length cap))) → K (a.put o.dst (.slice oa (xs ++ [R]).length cap)) w') :
    if Region.wanted o (yielded ops a.tmps) = true then Oper.wp Tryz.prog o a (W.alloc (.cells #[.string R] 9)) K Q else E := by
  have hw : Region.wanted o (yielded ops a.tmps) = true := by simp [Region.wanted, hgd]
  rw [if_pos hw]
  obtain ⟨oa, cap, w', hrun, h1, h2, h3, h4⟩ := h.out.app hl R o.type
  unfold Oper.wp
  simp [execOp, ho, resolve, invoke, builtin, hs, hx, hrun, Result.andThen]
  have := hK oa cap w' h1 h2 h3 h4
  have e : (xs ++ [R]).length = xs.length + 1 := by simp
  rw [e] at this
  exact this
theorem proofF_len : ∀ (f : Nat) (l : List ByteArray) (i : Nat), (proofF f l i).length ≤ f
  | 0, l, i => Nat.zero_le _
  | f + 1, l, i => by
    unfold proofF
    split
    · exact Nat.zero_le _
    · split
      · rw [List.length_append]
        have := proofF_len f (l.take (splitN l.length)) i
        simp
        omega
      · rw [List.length_append]
        have := proofF_len f (l.drop (splitN l.length)) (i - splitN l.length)
        simp
        omega
theorem proofL_len (l : List ByteArray) (i : Nat) : (proofL l i).length ≤ l.length := proofF_len _ _ _
set_option maxHeartbeats 2000000 in
theorem prove_any (w0 : World) (P : Nat) (ht : TabAt w0) : ∀ (N : Nat) (l : List ByteArray) (b o n c i : Nat) (oa : Option Addr) (cap : Nat) (xs : List ByteArray) (W : World), l.length ≤ N → l.length = n → n ≤ c → c ≤ 9223372036854775807 → xs.length + n ≤ 1000000 → i < n → SzB 300000000 l → RdB w0 b o l →
    PI w0 P 143 (.func (.func 94) #[] #[.pointer (some ⟨P + 1, 0, none⟩), .pointer (some ⟨P, 0, none⟩)]) (.slice oa xs.length cap) xs W →
    Calls Tryz.prog 94 #[.slice (some ⟨b, o, none⟩) n c, .int .i64 (i : Int), .pointer (some ⟨P + 1, 0, none⟩), .pointer (some ⟨P, 0, none⟩)] W fun e W' => e = .returned (.tuple #[]) ∧
      ∃ oa' cap', PI w0 P 143 (.func (.func 94) #[] #[.pointer (some ⟨P + 1, 0, none⟩), .pointer (some ⟨P, 0, none⟩)]) (.slice oa' (xs ++ proofL l i).length cap') (xs ++ proofL l i) W' := by
  intro N
  induction N with
  | zero => intro l b o n c i oa cap xs W hN hn hc hcm hx hi; omega
  | succ N ih =>
    intro l b o n c i oa cap xs W hN hn hc hcm hx hi hs hr hpi
    obtain ⟨fq, hfq⟩ : ∃ fq, Value.func (.func 94) #[] #[.pointer (some ⟨P + 1, 0, none⟩), .pointer (some ⟨P, 0, none⟩)] = fq := ⟨_, rfl⟩
    by_cases h1 : n = 1
    · obtain rfl := h1
      have HP : Hid (proofL l i = []) := proofL_one l i (by omega)
      have HPI := Lib.hid hpi
      clear hpi ih hr hs hN hfq
      go_enter Tryz.func94, Tryz.ntmps94
      go_wp2_with fail
      refine bodyPost_ret (v := .tuple #[]) (by simp [results, Tryz.results94, go_sem]) rfl ⟨rfl, oa, cap, ?_⟩
      rw [HP.out, List.append_nil]
      exact HPI.out
    · have h2 : 2 ≤ l.length := by omega
      have hk1 := splitN_lt l.length h2
      have hk2 := splitN_pos l.length
      obtain ⟨hl1, hl2⟩ := split_lens l h2
      have HSP := Lib.hid (split_any l.length W h2 (by omega))
      have HPT := Lib.hid (proofL_two l i h2)
      obtain ⟨k, hk⟩ : ∃ k, splitN l.length = k := ⟨_, rfl⟩
      rw [hk] at hk1 hk2 hl1 hl2 HSP HPT
      rw [hn] at HSP hk1 hl2
      have hpl1 := proofL_len (l.take k) i
      have hpl2 := proofL_len (l.drop k) (i - k)
      rw [hl1] at hpl1
      rw [hl2] at hpl2
      have IL : Hid (∀ W, Below w0.heap.size w0 W → Calls Tryz.prog 70 #[.slice (some ⟨b, o, none⟩) k c] W fun e w' => e = .returned (.string (rootL (l.take k))) ∧ Below W.heap.size W w') :=
        fun W hW => root_any N (l.take k) _ k c W (by omega) hl1 (by omega) hcm (by omega) (hs.take k) (hr.kept hW |>.take k |>.rds) (ht.below hW)
      have IR : Hid (∀ W, Below w0.heap.size w0 W → Calls Tryz.prog 70 #[.slice (some ⟨b, o + k, none⟩) (n - k) (c - k)] W fun e w' => e = .returned (.string (rootL (l.drop k))) ∧ Below W.heap.size W w') :=
        fun W hW => root_any N (l.drop k) _ (n - k) (c - k) W (by omega) hl2 (by omega) (by omega) (by omega) (hs.drop k) (hr.kept hW |>.drop k |>.rds) (ht.below hW)
      have IP : Hid (∀ W, i < k → PI w0 P 143 fq (.slice oa xs.length cap) xs W → Calls Tryz.prog 94 #[.slice (some ⟨b, o, none⟩) k c, .int .i64 (i : Int), .pointer (some ⟨P + 1, 0, none⟩), .pointer (some ⟨P, 0, none⟩)] W fun e W' => e = .returned (.tuple #[]) ∧ ∃ oa' cap', PI w0 P 143 fq (.slice oa' (xs ++ proofL (l.take k) i).length cap') (xs ++ proofL (l.take k) i) W') :=
        fun W hik hW => by
          subst hfq
          exact ih (l.take k) b o k c i oa cap xs W (by omega) hl1 (by omega) hcm (by omega) hik (hs.take k) (hr.take k) hW
      have IQ : Hid (∀ W, k ≤ i → PI w0 P 143 fq (.slice oa xs.length cap) xs W → Calls Tryz.prog 94 #[.slice (some ⟨b, o + k, none⟩) (n - k) (c - k), .int .i64 ((i : Int) - (k : Int)), .pointer (some ⟨P + 1, 0, none⟩), .pointer (some ⟨P, 0, none⟩)] W fun e W' => e = .returned (.tuple #[]) ∧ ∃ oa' cap', PI w0 P 143 fq (.slice oa' (xs ++ proofL (l.drop k) (i - k)).length cap') (xs ++ proofL (l.drop k) (i - k)) W') :=
        fun W hik hW => by
          subst hfq
          have := ih (l.drop k) b (o + k) (n - k) (c - k) (i - k) oa cap xs W (by omega) hl2 (by omega) (by omega) (by omega) (by omega) (hs.drop k) (hr.drop k) hW
          rw [show ((i - k : Nat) : Int) = (i : Int) - (k : Int) by omega] at this
          exact this
      have HFQ := Lib.hid hfq
      rw [hfq] at hpi
      have HPI := Lib.hid hpi
      have n1 : ((n : Int) == 1) = false := by rw [beq_eq_false_iff_ne]; omega
      have k0 : (0 : Int) ≤ (k : Int) := by omega
      have kc : (k : Int) ≤ (c : Int) := by omega
      have kn : (k : Int) ≤ (n : Int) := by omega
      have kk : (k : Int) < (c : Int) := by omega
      have nc : (n : Int) ≤ (c : Int) := by omega
      have kne : ¬ k = c := by omega
      have kne2 : ¬ c = k := by omega
      have c1 := hpi.q.cell 0
      have c0 := hpi.p.cell 0
      simp only [List.getElem?_cons_zero] at c0 c1
      have hx1 : xs.length + k ≤ 1000000 := by omega
      have hx2 : xs.length + (n - k) ≤ 1000000 := by omega
      clear hfq ih hr hs hN hpi hk hk1 hk2 hl1 hl2 h2 h1
      by_cases hik : i < k
      · have q1 : (i : Int) < (k : Int) := by omega
        rw [← HFQ.out] at c1
        go_enter Tryz.func94, Tryz.ntmps94
        go_wp2_with fail
        refine HSP.out.mono ?_
        rintro e w2 ⟨rfl, rfl⟩
        go_wp2_with fail
        go_region_held3 (fun W => W.cell? ⟨P + 1, 0, none⟩ = some (.func (.func 94) #[] #[.pointer (some ⟨P + 1, 0, none⟩), .pointer (some ⟨P, 0, none⟩)])) (first | go_keep | (rw [HFQ.out]; exact hpi2.q.cell 0)) (((with_reducible refine (IP.out _ hik (HPI.out.below (Below.refl _ _).drew)).mono ?_); rintro e w' ⟨rfl, oa2, cap2, hpi2⟩))
        obtain ⟨ys, hys⟩ : ∃ ys, xs ++ proofL (l.take k) i = ys := ⟨_, rfl⟩
        have hyl : ys.length ≤ 1000000 := by rw [← hys, List.length_append]; omega
        rw [hys] at hpi2
        have HYS := Lib.hid hys
        clear hys
        have HPJ := Lib.hid hpi2
        have d0 := hpi2.p.cell 0
        simp only [List.getElem?_cons_zero] at d0
        have hpl := hpi2.p.lt
        clear hpi2 c0 c1
        go_wp2_with fail
        go_region_law (first
          | (go_simp; (with_reducible refine (IR.out _ (HPJ.out.below (Below.refl _ _).drew).bel).mono ?_); rintro e w1 ⟨rfl, hb1⟩; have HPK := Lib.hid ((HPJ.out.below (Below.refl _ _).drew).below hb1); have e0 := HPK.out.p.cell 0; simp only [List.getElem?_cons_zero] at e0; have hpl1 := HPK.out.p.lt; clear hb1; go_simp)
          | (refine step_app (by rfl) _ _ (by rfl) (by rfl) (by rfl) HPK hyl ?_; intro oa3 cap3 w3 g0 g1 g2 HPL))
        all_goals
          (try go_wp2_with fail)
          refine bodyPost_ret (v := .tuple #[]) (by simp [results, Tryz.results94, go_sem]) rfl ⟨rfl, oa3, cap3, ?_⟩
          have HL := HPL.out
          rw [HPT.out, if_pos hik, ← List.append_assoc, HYS.out, HFQ.out]
          simpa using HL
      · have q1 : (k : Int) ≤ (i : Int) := by omega
        have q2 : ¬ (i : Int) < (k : Int) := by omega
        have hki : k ≤ i := by omega
        have q3 : IntKind.i64.wrap ((i : Int) - (k : Int)) = (i : Int) - (k : Int) := IntWalk.i64_in _ (by omega)
        rw [← HFQ.out] at c1
        go_enter Tryz.func94, Tryz.ntmps94
        go_wp2_with fail
        refine HSP.out.mono ?_
        rintro e w2 ⟨rfl, rfl⟩
        go_wp2_with fail
        go_region_held3 (fun W => W.cell? ⟨P + 1, 0, none⟩ = some (.func (.func 94) #[] #[.pointer (some ⟨P + 1, 0, none⟩), .pointer (some ⟨P, 0, none⟩)])) (first | go_keep | (rw [HFQ.out]; exact hpi2.q.cell 0)) (((with_reducible refine (IQ.out _ hki (HPI.out.below (Below.refl _ _).drew)).mono ?_); rintro e w' ⟨rfl, oa2, cap2, hpi2⟩))
        obtain ⟨ys, hys⟩ : ∃ ys, xs ++ proofL (l.drop k) (i - k) = ys := ⟨_, rfl⟩
        have hyl : ys.length ≤ 1000000 := by rw [← hys, List.length_append]; omega
        rw [hys] at hpi2
        have HYS := Lib.hid hys
        clear hys
        have HPJ := Lib.hid hpi2
        have d0 := hpi2.p.cell 0
        simp only [List.getElem?_cons_zero] at d0
        have hpl := hpi2.p.lt
        clear hpi2 c0 c1
        go_wp2_with fail
        go_region_law (first
          | (go_simp; (with_reducible refine (IL.out _ (HPJ.out.below (Below.refl _ _).drew).bel).mono ?_); rintro e w1 ⟨rfl, hb1⟩; have HPK := Lib.hid ((HPJ.out.below (Below.refl _ _).drew).below hb1); have e0 := HPK.out.p.cell 0; simp only [List.getElem?_cons_zero] at e0; have hpl1 := HPK.out.p.lt; clear hb1; go_simp)
          | (refine step_app (by rfl) _ _ (by rfl) (by rfl) (by rfl) HPK hyl ?_; intro oa3 cap3 w3 g0 g1 g2 HPL))
        all_goals
          (try go_wp2_with fail)
          go_end0
          refine ⟨rfl, oa3, cap3, ?_⟩
          have HL := HPL.out
          rw [HPT.out, if_neg hik, ← List.append_assoc, HYS.out, HFQ.out]
          simpa using HL
theorem own_rds {W : World} {B : Nat} {oa : Option Addr} {n cap : Nat} {l : List ByteArray} (h : W.ownsRow B 9 1 (.slice oa n cap) l.length (l.map Value.string)) : n = l.length ∧ n ≤ cap ∧ cap ≤ 9223372036854775807 ∧ RdS W oa l := by
  have h' := h
  rcases h.2 with ⟨he, h0⟩ | ⟨g, cap', cur, he, q1, q2, q3⟩
  · simp at he
    have : l = [] := List.eq_nil_of_length_eq_zero h0
    exact ⟨by rw [he.2.1, h0], by omega, by omega, .inl this⟩
  · simp at he
    obtain ⟨rfl, rfl, rfl⟩ := he
    refine ⟨rfl, by obtain ⟨q4, q5, q6⟩ := q3; omega, by obtain ⟨q4, q5, q6⟩ := q3; unfold maxLen at q5; omega, .inr ⟨g, 0, rfl, (Array.getElem?_eq_some_iff.1 q2).1, fun i c hi => ?_⟩⟩
    have hil : i < l.length := (List.getElem?_eq_some_iff.1 hi).1
    rw [Nat.zero_add, h'.cellAt _ (by simpa using hil)]
    simp [hi]
end Go.Proofs.YtfpcdlpfmlaakaaGreatDoor
namespace Go.Proofs.YtfpcdlpfmlaakaaGreatDoor
open Go.RowKit Onair
attribute [local go_sem ↓] Go.wp_at_zero Go.wp_at_succ
end Go.Proofs.YtfpcdlpfmlaakaaGreatDoor
namespace Go.Proofs.YtfpcdlpfmlaakaaGreatDoor
open Go.RowKit Onair
attribute [local go_sem ↓] Go.wp_at_zero Go.wp_at_succ
theorem own_base {W : World} {B B' : Nat} {t : TypeId} {size : Nat} {v : Value} {n : Nat} {xs : List Value} (h : W.ownsRow B t size v n xs) (hb : B' ≤ B) : W.ownsRow B' t size v n xs := by
  refine ⟨h.1, ?_⟩
  rcases h.2 with h2 | ⟨g, cap, cur, q1, q2, q3⟩
  · exact .inl h2
  · exact .inr ⟨g, cap, cur, q1, Nat.le_trans hb q2, q3⟩
set_option maxHeartbeats 2000000 in
theorem proof_own (l : List ByteArray) (b o n c i : Nat) (w : World) (hn : l.length = n) (hc : n ≤ c) (hcm : c ≤ 9223372036854775807) (hx : n ≤ 1000000) (hi : i < n) (hs : SzB 300000000 l) (hr : RdB w b o l) (ht : TabAt w) :
    Calls Tryz.prog 68 #[.slice (some ⟨b, o, none⟩) n c, .int .i64 (i : Int)] w fun e w' => ∃ oa cap, e = .returned (.tuple #[.slice oa (proofL l i).length cap, .int .i64 0]) ∧ w'.ownsRow w.heap.size 9 1 (.slice oa (proofL l i).length cap) (proofL l i).length ((proofL l i).map Value.string) ∧ Below w.heap.size w w' := by
  obtain ⟨P, hP⟩ : ∃ P, w.heap.size = P := ⟨_, rfl⟩
  obtain ⟨fq, hfq⟩ : ∃ fq, Value.func (.func 94) #[] #[.pointer (some ⟨P + 1, 0, none⟩), .pointer (some ⟨P, 0, none⟩)] = fq := ⟨_, rfl⟩
  have hpi : PI w P 143 fq (.slice none 0 0) [] ((w.alloc (.cells #[.slice none 0 0] 63)).alloc (.cells #[fq] 143)) := by
    subst hP
    refine ⟨(Blk.new w 63 [.slice none 0 0]).alloc _, World.ownsRow_nil _ _ _ _, ?_, rfl, ((Below.refl _ w).alloc (Nat.le_refl _) _).alloc (by simp) _⟩
    have := Blk.new (w.alloc (.cells #[.slice none 0 0] 63)) 143 [fq]
    rw [World.size_alloc] at this
    exact this
  subst hfq
  have HH := Lib.hid (prove_any w P ht l.length l b o n c i none 0 [] _ (Nat.le_refl _) hn hc hcm (by simpa using hx) hi hs hr hpi)
  have HP := Lib.hid hP
  have i0 : ¬ (i : Int) < 0 := by omega
  have i1 : ¬ (n : Int) ≤ (i : Int) := by omega
  have i2 : (i : Int) < (n : Int) := by omega
  clear hpi hP hr hs ht
  go_enter Tryz.func68, Tryz.ntmps68
  go_wp2_with fail
  rw [HP.out]
  refine HH.out.mono ?_
  rintro e w' ⟨rfl, oa', cap', hpi⟩
  rw [List.nil_append] at hpi
  have c0 := hpi.p.cell 0
  simp only [List.getElem?_cons_zero] at c0
  have HPI := Lib.hid hpi
  clear hpi HH
  go_wp2_with fail
  refine bodyPost_ret (v := .tuple #[.slice oa' (proofL l i).length cap', .int .i64 0]) (by simp [results, Tryz.results68, go_sem]) rfl ⟨oa', cap', rfl, by rw [HP.out]; exact own_base HPI.out.o (by omega), HPI.out.bel⟩
end Go.Proofs.YtfpcdlpfmlaakaaGreatDoor
