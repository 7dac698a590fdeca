/-
  Orders: replan.Decode of any string.
  Messages in plain words: the reading of a message out of a string.
-/
import Derived.Test.YtjkiidhnmljmbaaGreatDoorGoST
import Derived.Test.YtjkiidhnmljmbaaGreatDoorLits
import Derived.Test.YtjkiidhnmljmbaaGreatDoorGoPQ
set_option linter.unusedVariables false
set_option linter.unusedSimpArgs false
namespace Go.Proofs.YtjkiidhnmljmbaaGreatDoor
open Go.RowKit Go.Extern.Stop Go.Stop Go.Extern Onair
theorem Tryz.isErr (v : Value) (xT : TypeId) (w : World) : (Instr.typeAssert (.iface 196 v) xT 81 true).run Tryz.prog w = .ok (.tuple #[.iface 196 v, .bool true]) w := run_typeAssert_hasB Tryz.underlying81 (by kernel_rfl) v xT w
set_option maxHeartbeats 8000000 in
set_option maxRecDepth 100000 in
theorem icatch_any (r1 r2 : Nat) (c : Int) (x er : Addr) (l : List Value) (code : Int) (w : World) (hl : l.length = 26) (h1 : Blk w r1 30 l) (h2 : Blk w r2 35 [.int .i64 c]) (hne : r1 ≠ r2) (hg : w.cell? ⟨2, 0, none⟩ = some (.iface 196 (.pointer (some er)))) (hg1 : 2 ≠ r1) (hg2 : 2 ≠ r2)
    (hx : (x = er ∧ code = 10) ∨ (Apart w x er ∧ code = 110 ∧ x.block ≠ r1 ∧ x.block ≠ r2 ∧ er.block ≠ r1 ∧ er.block ≠ r2)) :
    CallsD Tryz.prog 77 #[.pointer (some ⟨r1, 0, none⟩), .pointer (some ⟨r2, 0, none⟩)] (.panicking [pE x]) w fun e u' w' =>
      e = .returned (.tuple #[]) ∧ u' = .panicking [{ pE x with recovered := true }] ∧ Blk w' r1 30 zeroO.l ∧ Blk w' r2 35 [.int .i64 code] ∧ Fr (fun k => k = r1 ∨ k = r2) w w' := by
  refine callsD_of_wpS Tryz.func77 rfl fun c₀ cs hu => ?_
  have hta := Tryz.isErr
  obtain ⟨w1, hw1⟩ : ∃ w1, w.setRow r1 zOa = w1 := ⟨_, rfl⟩
  have a1 : Blk w1 r1 30 zeroO.l := by rw [← hw1]; exact h1.setRow zOl
  have b1 : Blk w1 r2 35 [.int .i64 c] := by rw [← hw1]; exact h2.kept (heap_setRow_other _ _ _ _ (fun e => hne e.symm))
  have hf1 : Fr (fun k => k = r1 ∨ k = r2) w w1 := by rw [← hw1]; exact (Fr.refl _ w).setRow r1 _ (.inl (.inl rfl))
  have g1 : w1.cell? ⟨2, 0, none⟩ = some (.iface 196 (.pointer (some er))) := by
    rw [← hw1]
    unfold World.cell? at hg ⊢
    rw [heap_setRow_other _ _ _ _ hg1]
    exact hg
  have c1 := b1.cell 0
  have f1 := b1.frozen 0
  simp only [List.getElem?_cons_zero] at c1
  have HK1 := Lib.hid h1
  have HW1 := Lib.hid hw1
  have HSG := Lib.hid (show (Tryz.prog.info? 30).map (·.size) = some 26 from by kernel_rfl)
  have HO1 : Hid ((zOa : Array Value).all (·.oneCell') = true) := (by simp [Value.oneCell'] : (zOa : Array Value).all (·.oneCell') = true)
  have HO2 : Hid (l.toArray.size = (zOa : Array Value).size) := (by rw [List.size_toArray, hl]; rfl : l.toArray.size = (zOa : Array Value).size)
  have HA2 := Lib.hid (a1.other ⟨r2, 0, none⟩ (fun e => hne e.symm) (.int .i64 110))
  have HB2 := Lib.hid (b1.set 0 (.int .i64 110))
  have HF2 := Lib.hid (hf1.setCell ⟨r2, 0, none⟩ (.int .i64 110) (.inl (.inr rfl)))
  have g2 : (w1.setCell ⟨r2, 0, none⟩ (.int .i64 110)).cell? ⟨2, 0, none⟩ = some (.iface 196 (.pointer (some er))) := (World.cell?_setCell_far _ _ _ _ (fun e => hg2 e.symm)).trans g1
  have HNE := Lib.hid hne
  have HX : Hid ((x = er ∧ code = 10) ∨ (Apart (w1.setCell ⟨r2, 0, none⟩ (.int .i64 110)) x er ∧ code = 110)) := by
    rcases hx with h | ⟨⟨n1, ⟨ca, ta, ha⟩, ⟨cb, tb, hb⟩⟩, h2, e1, e2, e3, e4⟩
    · exact .inl h
    · refine .inr ⟨⟨n1, ⟨ca, ta, ?_⟩, ⟨cb, tb, ?_⟩⟩, h2⟩
      · rw [Below.heap_setCell _ _ _ _ e2, ← hw1, heap_setRow_other _ _ _ _ e1]; exact ha
      · rw [Below.heap_setCell _ _ _ _ e4, ← hw1, heap_setRow_other _ _ _ _ e3]; exact hb
  clear h1 h2 hne hg hg1 hg2 hw1 a1 b1 hf1 g1 hl hx
  unfold pE at hu ⊢
  apply wpS_seq
  apply wpS_region
  simp [wpOpsS, go_sem, recoverD, hu, Tryz.ntmps77, Exit.thenS]
  refine wpS_of_wp ?_
  simp only [Array.replicate, List.replicate, List.setIfInBounds_toArray, List.set_cons_zero, List.set_cons_succ, List.append_toArray, List.cons_append, List.nil_append]
  go_wp2_with (refine wpList_store_row rfl 30 (.tmp 0) (.tmp 8) rfl r1 zOa rfl rfl 30 _ HK1.out HSG.out HO2.out HO1.out ?_; rw [HW1.out])
  generalize World.setCell _ _ _ = w2 at HA2 HB2 HF2 g2 HX ⊢
  clear g2 c1 f1
  rcases HX.out with ⟨rfl, rfl⟩ | ⟨hap, rfl⟩
  · refine (is_es_same x _).mono ?_
    rintro e w4 ⟨rfl, hb4⟩
    have HA4 := Lib.hid (HA2.out.kept (hb4.block _ HA2.out.lt))
    have hb44 := HB2.out.kept (hb4.block _ HB2.out.lt)
    have HF4 := Lib.hid (HF2.out.trans (Fr.under (fun _ => False) hb4) (fun _ _ e => e.elim))
    have c4 := hb44.cell 0
    have f4 := hb44.frozen 0
    simp only [List.set_cons_zero, List.getElem?_cons_zero] at c4
    have HB5 := Lib.hid (hb44.set 0 (.int .i64 10))
    have HA5 := Lib.hid (HA4.out.other ⟨r2, 0, none⟩ (fun e => HNE.out e.symm) (.int .i64 10))
    have HF5 := Lib.hid (HF4.out.setCell ⟨r2, 0, none⟩ (.int .i64 10) (.inl (.inr rfl)))
    clear hb4 hb44
    go_wp2_with fail
    exact ⟨rfl, _, rfl, _, by simp [results, Tryz.results77, go_sem], rfl, rfl, HA5.out, HB5.out, HF5.out⟩
  · refine (is_es_other x er _ hap).mono ?_
    rintro e w4 ⟨rfl, hb4⟩
    have HA4 := Lib.hid (HA2.out.kept (hb4.block _ HA2.out.lt))
    have HB4 := Lib.hid (HB2.out.kept (hb4.block _ HB2.out.lt))
    have HF4 := Lib.hid (HF2.out.trans (Fr.under (fun _ => False) hb4) (fun _ _ e => e.elim))
    clear hb4
    go_wp2_with fail
    exact ⟨rfl, _, rfl, _, by simp [results, Tryz.results77, go_sem], rfl, rfl, HA4.out, HB4.out, HF4.out⟩
/-- What replan.Decode comes to. -/
def decR (l : List UInt8) : OutO :=
  match ordR l with
  | .ok o al => if okB o al = true then .ok o al else .bad
  | r => r
/-- How replan.Decode ends. -/
def DecPost (W : World) (R : OutO) (e : Ending) (w' : World) : Prop :=
  Below W.heap.size W w' ∧ match R with
  | .wire => e = .returned (.tuple #[.agg zeroO.l.toArray, .int .i64 10])
  | .bad => e = .returned (.tuple #[.agg zeroO.l.toArray, .int .i64 110])
  | .ok o al => ∃ oa ac, e = .returned (.tuple #[.agg (o.withA oa ac).l.toArray, .int .i64 0]) ∧ RdA w' oa al ∧ ∀ a, oa = some a → W.heap.size ≤ a.block
theorem DecPost.w {W w' : World} {R : OutO} (h : R = .wire) (hb : Below W.heap.size W w') : DecPost W R (.returned (.tuple #[.agg zeroO.l.toArray, .int .i64 10])) w' := by subst h; exact ⟨hb, rfl⟩
theorem DecPost.b {W w' : World} {R : OutO} (h : R = .bad) (hb : Below W.heap.size W w') : DecPost W R (.returned (.tuple #[.agg zeroO.l.toArray, .int .i64 110])) w' := by subst h; exact ⟨hb, rfl⟩
theorem okB_withA (o : GOd) (oa : Option Addr) (ac : Nat) (al : List (Int × Int)) : okB (o.withA oa ac) al = okB o al := rfl
set_option maxHeartbeats 8000000 in
set_option maxRecDepth 100000 in
theorem gRDec (s : ByteArray) (W : World) (er eb : Addr) (hs : s.size ≤ maxLen) (hw : W.cell? ⟨2, 0, none⟩ = some (.iface 196 (.pointer (some er)))) (hb : W.cell? ⟨3, 0, none⟩ = some (.iface 196 (.pointer (some eb)))) (hap : Apart W eb er) :
    Calls Tryz.prog 43 #[.string s] W fun e w' => DecPost W (decR s.data.toList) e w' := by
  have hmf : ∀ (fn : Fn) (first cap : Array Value) (w : World), (Instr.makeFunc fn first cap).run Tryz.prog w = .ok (.func fn first cap) w := fun _ _ _ _ => rfl
  obtain ⟨N, hN⟩ : ∃ N, W.heap.size = N := ⟨_, rfl⟩
  obtain ⟨w1, hw1⟩ : ∃ w1, W.alloc (.cells zOa 30) = w1 := ⟨_, rfl⟩
  obtain ⟨w2, hw2⟩ : ∃ w2, w1.alloc (.cells #[.int .i64 0] 35) = w2 := ⟨_, rfl⟩
  obtain ⟨w3, hw3⟩ : ∃ w3, w2.alloc (.cells #[.string s, .int .i64 0] 153) = w3 := ⟨_, rfl⟩
  have hz1 : w1.heap.size = N + 1 := by rw [← hw1, World.size_alloc, hN]
  have hz2 : w2.heap.size = N + 2 := by rw [← hw2, World.size_alloc, hz1]
  have ka : Blk w3 N 30 zeroO.l := by
    have := Blk.new W 30 zOl
    rw [hN, hw1] at this
    rw [← hw3, ← hw2]
    exact (this.alloc _).alloc _
  have kb : Blk w3 (N + 1) 35 [.int .i64 0] := by
    have := Blk.new w1 35 [.int .i64 0]
    rw [hz1, hw2] at this
    rw [← hw3]
    exact this.alloc _
  have kc : Blk w3 (N + 2) 153 [.string s, .int .i64 0] := by
    have := Blk.new w2 153 [.string s, .int .i64 0]
    rw [hz2, hw3] at this
    exact this
  have hb3 : Below N W w3 := by
    rw [← hw3, ← hw2, ← hw1, ← hN]
    exact (((Below.refl _ W).alloc (Nat.le_refl _) _).alloc (by simp) _).alloc (by simp; omega) _
  have hgw : 2 < N := by rw [← hN]; exact block_lt hw
  have hgb : 3 < N := by rw [← hN]; exact block_lt hb
  have hgw3 := (hb3.cell (p := ⟨2, 0, none⟩) hgw).trans hw
  have hgb3 := (hb3.cell (p := ⟨3, 0, none⟩) hgb).trans hb
  have hal : eb.block < N ∧ er.block < N := by
    obtain ⟨_, ⟨ca, ta, h1⟩, ⟨cb, tb, h2⟩⟩ := hap
    rw [← hN]
    exact ⟨(Array.getElem?_eq_some_iff.1 h1).1, (Array.getElem?_eq_some_iff.1 h2).1⟩
  have HOR := Lib.hid (gIorder (N + 2) s w3 er eb hs kc hgw3 hgb3 (by omega) (by omega))
  have HGL : Hid ((2 < N ∧ 3 < N) ∧ eb.block < N ∧ er.block < N) := ⟨⟨hgw, hgb⟩, hal⟩
  have HGW : Hid (∀ w', Below N W w' → w'.cell? ⟨2, 0, none⟩ = some (.iface 196 (.pointer (some er)))) := fun w' h => (h.cell (p := ⟨2, 0, none⟩) hgw).trans hw
  have HGB : Hid (∀ w', Below N W w' → w'.cell? ⟨3, 0, none⟩ = some (.iface 196 (.pointer (some eb)))) := fun w' h => (h.cell (p := ⟨3, 0, none⟩) hgb).trans hb
  have HAP : Hid (∀ w', Below N W w' → Apart w' eb er) := fun w' h => hap.below (hN ▸ h)
  have KA := Lib.hid ka
  have KB := Lib.hid kb
  have KC := Lib.hid kc
  have HB3 := Lib.hid hb3
  have HSZ := Lib.hid (show (Tryz.prog.info? 30).map (·.size) = some 26 from by kernel_rfl)
  have HNN := Lib.hid hN
  have HZ3 : Hid (N + 2 < w3.heap.size) := kc.lt
  obtain ⟨l, hl⟩ : ∃ l, s.data.toList = l := ⟨_, rfl⟩
  obtain ⟨R, hR⟩ : ∃ R, decR l = R := ⟨_, rfl⟩
  rw [hl] at HOR ⊢
  rw [hR]
  have HRR := Lib.hid hR
  clear ka kb kc hb3 hs hw hb hap hgw hgb hgw3 hgb3 hal hl hR
  go_enter_defers Tryz.func43, Tryz.ntmps43
  go_wp2_with fail
  refine HOR.out.mono ?_
  rintro e w4 ⟨hf4, he⟩
  have ka4 := KA.out.kept (hf4.block _ KA.out.lt (by omega))
  have kb4 := KB.out.kept (hf4.block _ KB.out.lt (by omega))
  have hb4 : Below N W w4 := HB3.out.trans (hf4.below N (by have := KC.out.lt; omega) (fun c e => by omega))
  have HA4 := Lib.hid ka4
  have HK4 := Lib.hid kb4
  have HB4 := Lib.hid hb4
  clear hf4 ka4 kb4 hb4 HOR KA KB KC HB3 hw1 hw2 hw3 hz1 hz2
  unfold decR at HRR
  cases hord : ordR l with
  | wire =>
    rw [hord] at he HRR
    dsimp only at he HRR
    subst he
    have HRW : Hid (R = .wire) := HRR.out.symm
    clear HRR hord
    go_wp2_with fail
    have h0 := HGL.out
    refine leaves_cons (f := 77) (args := #[.pointer (some ⟨N, 0, none⟩), .pointer (some ⟨N + 1, 0, none⟩)]) (by simp) (by simp [go_sem]) ?_
    
    refine (icatch_any N (N + 1) 0 er er zeroO.l 10 w4 rfl HA4.out HK4.out (by omega) (HGW.out w4 HB4.out) (by omega) (by omega) (.inl ⟨rfl, rfl⟩)).mono ?_
    rintro e u' w5 ⟨rfl, rfl, k1, k2, hf⟩
    exact ⟨_, res_two Tryz.results43 rfl rfl (load_order rfl k1) (load_errno k2), DecPost.w HRW.out (by rw [HNN.out]; exact HB4.out.trans (hf.below N (by have := HA4.out.lt; omega) (fun k e => by omega)))⟩
  | bad =>
    rw [hord] at he HRR
    dsimp only at he HRR
    subst he
    have HRW : Hid (R = .bad) := HRR.out.symm
    clear HRR hord
    go_wp2_with fail
    have h0 := HGL.out
    refine leaves_cons (f := 77) (args := #[.pointer (some ⟨N, 0, none⟩), .pointer (some ⟨N + 1, 0, none⟩)]) (by simp) (by simp [go_sem]) ?_
    
    refine (icatch_any N (N + 1) 0 eb er zeroO.l 110 w4 rfl HA4.out HK4.out (by omega) (HGW.out w4 HB4.out) (by omega) (by omega) (.inr ⟨HAP.out w4 HB4.out, rfl, by omega, by omega, by omega, by omega⟩)).mono ?_
    rintro e u' w5 ⟨rfl, rfl, k1, k2, hf⟩
    exact ⟨_, res_two Tryz.results43 rfl rfl (load_order rfl k1) (load_errno k2), DecPost.b HRW.out (by rw [HNN.out]; exact HB4.out.trans (hf.below N (by have := HA4.out.lt; omega) (fun k e => by omega)))⟩
  | ok o al =>
    obtain ⟨_, _, hal7, han, _, _, htx⟩ := ordR_back hord
    rw [hord] at he HRR
    dsimp only at he HRR
    obtain ⟨oa, ac, rfl, hra, _, hfr⟩ := he
    obtain ⟨q, hq⟩ : ∃ q, o.withA oa ac = q := ⟨_, rfl⟩
    have HQ := Lib.hid hq
    have hqo : q.ao = oa := by rw [← hq]; rfl
    have hqn : al.length = q.an := by rw [← hq]; exact han.symm
    have hqt : q.txt.size ≤ maxLen := by rw [← hq]; show o.txt.size ≤ _; unfold maxLen; omega
    have hqk : okB q al = okB o al := by rw [← hq]; rfl
    rw [hq]
    obtain ⟨ob, hob⟩ : ∃ ob, w4.heap.size = ob := ⟨_, rfl⟩
    obtain ⟨w5, hw5⟩ : ∃ w5, w4.alloc (.cells zOa 30) = w5 := ⟨_, rfl⟩
    have hbo5 : Below w4.heap.size w4 w5 := by rw [← hw5]; exact (Below.refl _ w4).alloc (Nat.le_refl _) _
    have ko5 : Blk w5 ob 30 zOl := by rw [← hw5, ← hob]; exact Blk.new w4 _ _
    have hNo : N + 1 < ob := by rw [← hob]; exact HK4.out.lt
    obtain ⟨w6, hw6⟩ : ∃ w6, w5.setRow ob q.l.toArray = w6 := ⟨_, rfl⟩
    have ko6 : Blk w6 ob 30 q.l := by rw [← hw6]; exact ko5.setRow _
    have hbo6 : Below w4.heap.size w4 w6 := by rw [← hw6]; exact below_setRow hbo5 (by omega) _
    have hra6 : RdA w6 q.ao al := by rw [hqo]; exact hra.kept hbo6
    have ka6 := HA4.out.kept (hbo6.block _ HA4.out.lt)
    have kb6 := HK4.out.kept (hbo6.block _ HK4.out.lt)
    have hb6 : Below N W w6 := HB4.out.trans (hbo6.mono (by omega))
    have HV := Lib.hid (gValid q al w6 hqn (by omega) hra6 hqt)
    have HO1 : Hid (q.l.toArray.all (·.oneCell') = true) := q.oneC
    have HO2 : Hid (zOa.size = q.l.toArray.size) := rfl
    have HO3 : Hid (zeroO.l.toArray.size = q.l.toArray.size) := rfl
    have HRA6 := Lib.hid hra6
    have HQO := Lib.hid hqo
    have HFR := Lib.hid hfr
    have HK5 := Lib.hid ko5
    have HR6 := Lib.hid ko6.range
    have HW6 := Lib.hid hw6
    have KO6 := Lib.hid ko6
    have KA6 := Lib.hid ka6
    have KB6 := Lib.hid kb6
    have HB6 := Lib.hid hb6
    obtain ⟨ok, hok⟩ : ∃ ok, okB q al = ok := ⟨_, rfl⟩
    rw [← hqk, hok] at HRR
    rw [hok] at HV
    clear hbo5 ko5 hw6 ko6 hbo6 hra6 ka6 kb6 hb6 hra hfr hq hqo hqn hqt hqk hok hal7 han htx hord
    go_wp2_with (first | (refine wpList_store_row rfl 30 (.tmp 5) (.tmp 11) rfl ob q.l.toArray rfl rfl 30 _ HK5.out HSZ.out HO2.out HO1.out ?_; rw [HW6.out]) | (refine wpList_load_mid rfl 30 (.tmp 5) rfl ob 0 rfl q.l _ HR6.out Tryz.underlying30 rfl HSZ.out ?_))
    refine HV.out.mono ?_
    rintro e w7 ⟨rfl, hb7⟩
    have HR7 := Lib.hid (KO6.out.kept (hb7.block _ KO6.out.lt)).range
    have ka7 := KA6.out.kept (hb7.block _ KA6.out.lt)
    have kb7 := KB6.out.kept (hb7.block _ KB6.out.lt)
    have hra7 := HRA6.out.kept hb7
    have hb8 : Below N W w7 := HB6.out.trans (hb7.mono (by have := KA6.out.lt; omega))
    cases ok with
    | false =>
      have HRW : Hid (R = .bad) := HRR.out.symm
      have g0 := HGB.out w7 hb8
      have HA7 := Lib.hid ka7
      have HK7 := Lib.hid kb7
      have HB8 := Lib.hid hb8
      clear HRR hb7 ka7 kb7 hra7 hb8 hw5 HV
      go_wp2_with fail
      have h0 := HGL.out
      refine leaves_cons (f := 77) (args := #[.pointer (some ⟨N, 0, none⟩), .pointer (some ⟨N + 1, 0, none⟩)]) (by simp) (by simp [go_sem]) ?_
      
      refine (icatch_any N (N + 1) 0 eb er zeroO.l 110 w7 rfl HA7.out HK7.out (by omega) (HGW.out w7 HB8.out) (by omega) (by omega) (.inr ⟨HAP.out w7 HB8.out, rfl, by omega, by omega, by omega, by omega⟩)).mono ?_
      rintro e u' w5 ⟨rfl, rfl, k1, k2, hf⟩
      exact ⟨_, res_two Tryz.results43 rfl rfl (load_order rfl k1) (load_errno k2), DecPost.b HRW.out (by rw [HNN.out]; exact HB8.out.trans (hf.below N (by have := HA7.out.lt; omega) (fun k e => by omega)))⟩
    | true =>
      have HRO : Hid (R = .ok o al) := HRR.out.symm
      obtain ⟨w8, hw8⟩ : ∃ w8, w7.setRow N q.l.toArray = w8 := ⟨_, rfl⟩
      have ka8 : Blk w8 N 30 q.l := by rw [← hw8]; exact ka7.setRow _
      have kb8 : Blk w8 (N + 1) 35 [.int .i64 0] := kb7.kept (by rw [← hw8]; exact heap_setRow_other _ _ _ _ (by omega))
      have hb9 : Below N W w8 := by rw [← hw8]; exact below_setRow hb8 (Nat.le_refl _) _
      have hra8 : RdA w8 oa al := by
        rw [HQO.out] at hra7
        refine hra7.keptB (by rw [← hw8, size_setRow]; exact Nat.le_refl _) (fun b o e hlt => ?_)
        rw [← hw8]
        exact heap_setRow_other _ _ _ _ (by have h9 := HFR.out _ e; have h8 : w3.heap.size ≤ b := h9; have := HZ3.out; omega)
      have c1 : w8.cell? ⟨N + 1, 0, none⟩ = some (.int .i64 0) := kb8.cell 0
      have f1 := kb8.frozen 0
      have HK7 := Lib.hid ka7
      have HW8 := Lib.hid hw8
      have KA9 := Lib.hid (ka8.other ⟨N + 1, 0, none⟩ (show N + 1 ≠ N by omega) (.int .i64 0))
      have KB9 : Hid (Blk (w8.setCell ⟨N + 1, 0, none⟩ (.int .i64 0)) (N + 1) 35 [.int .i64 0]) := kb8.set 0 (.int .i64 0)
      have HB9 := Lib.hid (hb9.setCell (p := ⟨N + 1, 0, none⟩) (show N ≤ N + 1 by omega) (.int .i64 0))
      have HRA9 : Hid (RdA (w8.setCell ⟨N + 1, 0, none⟩ (.int .i64 0)) oa al) := hra8.keptB (by simp [World.setCell]) (fun b o e hlt => Below.heap_setCell _ _ _ _ (by have h9 := HFR.out _ e; have h8 : w3.heap.size ≤ b := h9; have := HZ3.out; show b ≠ N + 1; omega))
      clear hb7 ka7 kb7 hra7 hb8 hw8 ka8 kb8 hb9 hra8 hw5 HV HRR
      go_wp2_with (first | (refine wpList_load_mid rfl 30 (.tmp 5) rfl ob 0 rfl q.l _ HR7.out Tryz.underlying30 rfl HSZ.out ?_) | (refine wpList_store_row rfl 30 (.tmp 2) (.tmp 16) rfl N q.l.toArray rfl rfl 30 _ HK7.out HSZ.out HO3.out HO1.out ?_; rw [HW8.out]))
      refine leaves_cons (f := 77) (args := #[.pointer (some ⟨N, 0, none⟩), .pointer (some ⟨N + 1, 0, none⟩)]) (by simp) (by simp [go_sem]) ?_
      refine (icatch_idle N (N + 1) _).mono ?_
      rintro e u' w9 ⟨rfl, rfl, rfl⟩
      refine ⟨_, res_two Tryz.results43 rfl rfl (load_order rfl KA9.out) (load_errno KB9.out), ?_⟩
      rw [HRO.out]
      refine ⟨by rw [HNN.out]; exact HB9.out, oa, ac, by rw [HQ.out], HRA9.out, fun a e => ?_⟩
      have h9 := HFR.out a e
      have := HZ3.out
      rw [HNN.out]
      omega
end Go.Proofs.YtjkiidhnmljmbaaGreatDoor
namespace Go.Proofs.YtjkiidhnmljmbaaGreatDoor
open Go.RowKit Onair
/-- What the reading of a message comes to: no encoding, no message, or a message with its order's alternatives. -/
inductive OutM where
  | short
  | mean
  | ok (m : MOd) (al : List (Int × Int))
def m5 (kd : Int) (vs : List Int) (o : GOd) : MOd := ⟨kd, vs.getD 0 0, vs.getD 1 0, vs.getD 2 0, vs.getD 3 0, o⟩
def zeroM : MOd := ⟨0, 0, 0, 0, 0, zeroO⟩
theorem set_m5 (kd : Int) (vs : List Int) (h : vs.length = 4) : setL (zeroM.l.set 0 (.int .i64 kd)) [1, 2, 3, 4] vs = (m5 kd vs zeroO).l := by
  match vs, h with
  | [a, b, c, d], _ => rfl
def okR (m : MOd) (al : List (Int × Int)) : OutM := if okM m al = true then .ok m al else .mean
def msgO (kd : Int) (vs : List Int) (R : OutO) : OutM :=
  match R with
  | .ok o al => okR (m5 kd vs o) al
  | _ => .mean
def msgF (l : List UInt8) (kd : Int) (vs : List Int) (a : Int) (t : List UInt8) : OutM :=
  if a = (l.length : Int) then
    if kd = 1 then msgO kd vs (decR t) else okR (m5 kd vs zeroO) []
  else .short
def msgT (l : List UInt8) (kd : Int) (vs : List Int) (a : Int) : OutM :=
  if kd = 1 then
    if (strR l a).2.2 = 0 then msgF l kd vs (strR l a).2.1 (strR l a).1 else .short
  else msgF l kd vs a []
/-- The reading of a message out of a string. -/
def msgR (l : List UInt8) : OutM :=
  if (intR l 0).2.2 = 0 then
    if 1 ≤ (intR l 0).1 ∧ (intR l 0).1 ≤ 3 then
      match readN l 4 (intR l 0).2.1 with
      | none => .short
      | some r => msgT l (intR l 0).1 r.1 r.2
    else .mean
  else .short
theorem msgR_short {l : List UInt8} (h : (intR l 0).2.2 ≠ 0) : msgR l = .short := by unfold msgR; rw [if_neg h]
theorem msgR_mean {l : List UInt8} (h : (intR l 0).2.2 = 0) (hk : ¬ (1 ≤ (intR l 0).1 ∧ (intR l 0).1 ≤ 3)) : msgR l = .mean := by unfold msgR; rw [if_pos h, if_neg hk]
theorem msgR_none {l : List UInt8} (h : (intR l 0).2.2 = 0) (hk : 1 ≤ (intR l 0).1 ∧ (intR l 0).1 ≤ 3) (hr : readN l 4 (intR l 0).2.1 = none) : msgR l = .short := by unfold msgR; rw [if_pos h, if_pos hk, hr]
theorem msgR_some {l : List UInt8} {vs : List Int} {b : Int} (h : (intR l 0).2.2 = 0) (hk : 1 ≤ (intR l 0).1 ∧ (intR l 0).1 ≤ 3) (hr : readN l 4 (intR l 0).2.1 = some (vs, b)) : msgR l = msgT l (intR l 0).1 vs b := by unfold msgR; rw [if_pos h, if_pos hk, hr]
theorem msgT_1n {l : List UInt8} {kd : Int} {vs : List Int} {a : Int} (hk : kd = 1) (h : (strR l a).2.2 ≠ 0) : msgT l kd vs a = .short := by unfold msgT; rw [if_pos hk, if_neg h]
theorem msgT_1s {l : List UInt8} {kd : Int} {vs : List Int} {a : Int} (hk : kd = 1) (h : (strR l a).2.2 = 0) : msgT l kd vs a = msgF l kd vs (strR l a).2.1 (strR l a).1 := by unfold msgT; rw [if_pos hk, if_pos h]
theorem msgT_x {l : List UInt8} {kd : Int} {vs : List Int} {a : Int} (hk : kd ≠ 1) : msgT l kd vs a = msgF l kd vs a [] := by unfold msgT; rw [if_neg hk]
theorem msgF_no {l : List UInt8} {kd : Int} {vs : List Int} {a : Int} {t : List UInt8} (h : ¬ a = (l.length : Int)) : msgF l kd vs a t = .short := by unfold msgF; rw [if_neg h]
theorem msgF_1 {l : List UInt8} {kd : Int} {vs : List Int} {a : Int} {t : List UInt8} (h : a = (l.length : Int)) (hk : kd = 1) : msgF l kd vs a t = msgO kd vs (decR t) := by unfold msgF; rw [if_pos h, if_pos hk]
theorem msgF_x {l : List UInt8} {kd : Int} {vs : List Int} {a : Int} {t : List UInt8} (h : a = (l.length : Int)) (hk : kd ≠ 1) : msgF l kd vs a t = okR (m5 kd vs zeroO) [] := by unfold msgF; rw [if_pos h, if_neg hk]
end Go.Proofs.YtjkiidhnmljmbaaGreatDoor
