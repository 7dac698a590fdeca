/-
  The walk of asrun.Open.
-/
import Derived.WalkKit
import Derived.LoopTactic
import Derived.WalkSpells
import Derived.WalkLawsBesides
import Derived.RegionTactic
import Derived.BigRegion
import Derived.IntWalk
import Derived.Outline
import Derived.Deep.QuietTactic
import Derived.BigQuiet
import Derived.Deep.RegionLaw
import Derived.Deep.RegionHeld3
import Derived.Deep.DeepCutAuto
import Derived.WalkMore
import Derived.Lib.Hide
import Derived.Test.YtfpcdlpfmlaakaaGreatDoorAsE
import Derived.Test.YtfpcdlpfmlaakaaGreatDoorAsHq
set_option linter.unusedVariables false
set_option linter.unusedSimpArgs false
namespace Go.Proofs.YtfpcdlpfmlaakaaGreatDoor
open Go.RowKit Onair
attribute [local go_sem] Oper.semAt_some
theorem postM_ret {n : Nat} {fn : Func} {tmps : Array Value} {Q : Ending → World → Prop} {w : World} {v : Value} (hr : (results fn tmps).run Tryz.prog w = .ok v w) (h : Q (.returned v) w) :
    bodyPostM Fence.wide n Tryz.prog fn Q .ret { tmps := tmps, defers := [] } w := ⟨v, hr, h⟩
/-- The mark of a range over a function is taken away at the end. -/
theorem postM_mark {n D : Nat} {fn : Func} {tmps : Array Value} {Q : Ending → World → Prop} {w : World} {v : Value} (hD : w.heap[D]? = some (.deferred (some [])))
    (hr : (results fn tmps).run Tryz.prog (w.putObj D (.deferred none)) = .ok v (w.putObj D (.deferred none))) (h : Q (.returned v) (w.putObj D (.deferred none))) :
    bodyPostM Fence.wide n Tryz.prog fn Q .ret { tmps := tmps, defers := [{ target := .collected D, args := #[] }] } w :=
  ⟨by simp, .inl ⟨D, _, rfl, run_takeDeferred (P := Tryz.prog) hD, ⟨v, hr, h⟩⟩⟩
theorem insB_zero (D : DS) : insB D 0 (D.vis.length : Int) = true := by unfold insB; exact decide_eq_true (by omega)
theorem item_at : ∀ (l : List Rec) (hd : ByteArray) (a k : Nat) (x : SX), (itemF hd a l)[k]? = some x → ∃ r, l[k]? = some r ∧ x = ⟨r, encB r, headF hd (l.take (k + 1)), ((a + (logL hd (l.take (k + 1))).length : Nat) : Int), true⟩
  | [], hd, a, k, x, h => by simp [itemF] at h
  | r :: l, hd, a, 0, x, h => by
    simp only [itemF, List.getElem?_cons_zero, Option.some.injEq] at h
    refine ⟨r, rfl, ?_⟩
    rw [← h]
    simp [headF, logL]
  | r :: l, hd, a, k + 1, x, h => by
    simp only [itemF, List.getElem?_cons_succ] at h
    obtain ⟨r', h1, h2⟩ := item_at l _ _ k x h
    refine ⟨r', h1, ?_⟩
    rw [h2, List.take_succ_cons]
    simp only [SX.mk.injEq, true_and, and_true]
    refine ⟨rfl, ?_⟩
    show _ = ((a + (storedL hd r ++ logL (chainB hd (encB r)) (l.take (k + 1))).length : Nat) : Int)
    rw [List.length_append]
    omega
theorem itemF_len : ∀ (l : List Rec) (hd : ByteArray) (a : Nat), (itemF hd a l).length = l.length
  | [], _, _ => rfl
  | r :: l, hd, a => by simp only [itemF, List.length_cons, itemF_len l]
theorem kpS_at {S : Nat → Prop} {A A' : World} (hk : KpS S A A') {k : Nat} {o : Obj} (h : A.heap[k]? = some o) (ho : o.isCells = true) (hs : ¬ S k) : A'.heap[k]? = A.heap[k]? := by rw [h]; exact hk.same k o h ho hs
theorem own_cells' {W : World} {B : Nat} {t : TypeId} {size : Nat} {v : Value} {n : Nat} {xs : List Value} (h : W.ownsRow B t size v n xs) {k : Nat} (hk : v.ownBlock = some k) : ∃ o : Obj, W.heap[k]? = some o ∧ o.isCells = true := by
  rcases h.2 with ⟨rfl, _⟩ | ⟨g, cap, cur, rfl, _, hgb, _⟩
  · simp [Value.ownBlock] at hk
  · simp [Value.ownBlock] at hk
    subst hk
    exact ⟨_, hgb, rfl⟩
theorem LgAt.cells {W : World} {B bl b : Nat} {vr ve : Value} {R : List Rec} {br : Bool} (h : LgAt W B bl b vr ve R br) (k : Nat) (hk : LFoot bl vr ve k) : ∃ o : Obj, W.heap[k]? = some o ∧ o.isCells = true := by
  rcases hk with rfl | hk | hk
  · exact ⟨_, h.blk, rfl⟩
  · exact own_cells' h.recs hk
  · exact own_cells' h.ents hk
/-- The log under way in Open. -/
structure OI (W : World) (N b bl xb n4 : Nat) (R : List Rec) (vr ve : Value) (A : World) : Prop where
  lg : LgAt A N bl b vr ve R false
  far : ∀ k, LFoot bl vr ve k → k = bl ∨ n4 ≤ k
  bel : Below N W A
  bx : Blk A N 24 [.pointer (some ⟨b, 0, none⟩)]
  er : Blk A (N + 1) 25 [.int .i64 0]
  px : Blk A xb 33 [.pointer (some ⟨bl, 0, none⟩)]
  tab : TabAt A
  n0 : W.heap.size = N
  n1 : N + 1 < bl
  n2 : bl < n4
  n3 : N + 1 < xb
  n5 : xb < n4
  n6 : bl ≠ xb
  n7 : n4 ≤ A.heap.size
  n8 : 0 < N
theorem OI.kp {W : World} {N b bl xb n4 : Nat} {R : List Rec} {vr ve : Value} {A A' : World} (h : OI W N b bl xb n4 R vr ve A) (hk : KpS (fun _ => False) A A') (hb : Below N W A') : OI W N b bl xb n4 R vr ve A' :=
  ⟨h.lg.kept (fun k hk' => by obtain ⟨o, h1, h2⟩ := h.lg.cells k hk'; exact kpS_at hk h1 h2 (fun e => e)), h.far, hb, h.bx.kpS hk (fun e => e), h.er.kpS hk (fun e => e), h.px.kpS hk (fun e => e), h.tab.kpS hk (fun e => e), h.n0, h.n1, h.n2, h.n3, h.n5, h.n6, Nat.le_trans h.n7 hk.size, h.n8⟩
theorem OI.below {W : World} {N b bl xb n4 : Nat} {R : List Rec} {vr ve : Value} {A A' : World} (h : OI W N b bl xb n4 R vr ve A) (hb : Below A.heap.size A A') : OI W N b bl xb n4 R vr ve A' :=
  h.kp (KpS.below hb) (h.bel.trans (hb.mono (by have := h.n7; have := h.n2; have := h.n1; omega)))
theorem OI.put {W : World} {N b bl xb n4 : Nat} {R : List Rec} {vr ve : Value} {A : World} {l : Nat} {o : Obj} (h : OI W N b bl xb n4 R vr ve A) (hl : A.heap[l]? = some o) (ho : o.isCells = false) (hn : n4 ≤ l) (o' : Obj) : OI W N b bl xb n4 R vr ve (A.putObj l o') :=
  h.kp (KpS.put A l o o' hl ho) (h.bel.trans ((Fr.put (S := fun c => c = l) A l o' rfl).below N (by have := h.n7; have := h.n2; have := h.n1; omega) (fun c hc => by have := h.n2; have := h.n1; omega)))
/-- A record has been added to the log under way. -/
theorem OI.add {W : World} {N b bl xb n4 : Nat} {R : List Rec} {vr ve : Value} {A : World} {r : Rec} {e : Ending} {w' : World} (h : OI W N b bl xb n4 R vr ve A) (ha : AddP A N bl b vr ve R false r e w') :
    (∃ v, e = .returned v) ∧ KeepsOthers A w' ∧ KpS (LFoot bl vr ve) A w' ∧ ∃ vr' ve', OI W N b bl xb n4 (R ++ [r]) vr' ve' w' := by
  obtain ⟨hv, vr', ve', hl, hk, hf⟩ := ha
  have n1 := h.n1
  have n2 := h.n2
  have n3 := h.n3
  have n5 := h.n5
  have n6 := h.n6
  have n7 := h.n7
  have n8 := h.n8
  have far := h.far
  have nn : ∀ k, k < n4 → k ≠ bl → ¬ LFoot bl vr ve k := fun k h1 h2 h3 => by
    rcases far k h3 with h4 | h4
    · exact h2 h4
    · omega
  refine ⟨hv, hf.others' (fun k o hs ho => ?_), KpS.fr hf, vr', ve', hl, ?_, ?_, h.bx.kept (hf.block _ h.bx.lt (nn _ (by omega) (by omega))), h.er.kept (hf.block _ h.er.lt (nn _ (by omega) (by omega))), h.px.kept (hf.block _ h.px.lt (nn _ (by omega) (by omega))), ?_, h.n0, n1, n2, n3, n5, n6, Nat.le_trans n7 hf.size, n8⟩
  · obtain ⟨o', h1, h2⟩ := h.lg.cells k hs
    rw [h1] at ho
    cases ho
    exact h2
  · intro k hk'
    rcases hk k hk' with h1 | h1
    · exact far k h1
    · exact .inr (by omega)
  · exact h.bel.trans (hf.below N (by omega) (fun k hk' => by
      rcases far k hk' with h1 | h1 <;> omega))
  · intro i hi
    refine Eq.trans ?_ (h.tab i hi)
    have e := hf.block 0 (by omega) (nn _ (by omega) (by omega))
    simp only [World.cell?, e]
/-- The damage is marked. -/
structure OZ (W : World) (N n4 : Nat) (A : World) : Prop where
  bel : Below N W A
  er : Blk A (N + 1) 25 [.int .i64 252]
  n1 : N + 1 < n4
  n7 : n4 ≤ A.heap.size
theorem OZ.below {W : World} {N n4 : Nat} {A A' : World} (h : OZ W N n4 A) (hb : Below A.heap.size A A') : OZ W N n4 A' :=
  ⟨h.bel.trans (hb.mono (by have := h.n7; have := h.n1; omega)), h.er.kept (hb.block _ h.er.lt), h.n1, Nat.le_trans h.n7 hb.size⟩
theorem OZ.put {W : World} {N n4 : Nat} {A : World} {l : Nat} {o : Obj} (h : OZ W N n4 A) (hl : A.heap[l]? = some o) (ho : o.isCells = false) (hn : n4 ≤ l) (o' : Obj) : OZ W N n4 (A.putObj l o') :=
  ⟨h.bel.trans ((Fr.put (S := fun c => c = l) A l o' rfl).below N (by have := h.n7; have := h.n1; omega) (fun c hc => by have := h.n1; omega)), h.er.kpS (KpS.put A l o o' hl ho) (fun e => e) (S := fun _ => False), h.n1, Nat.le_trans h.n7 (KpS.put (S := fun _ => False) A l o o' hl ho).size⟩
/-- A new log and the variable that points to it. -/
structure OpenX (wc : World) (b bl xb : Nat) (wx : World) : Prop where
  lg : Blk wx bl 87 [.pointer (some ⟨b, 0, none⟩), .slice none 0 0, .slice none 0 0, .string zero32, .int .i64 0, .bool false]
  px : Blk wx xb 33 [.pointer (some ⟨bl, 0, none⟩)]
  ne : bl ≠ xb
  h1 : wc.heap.size ≤ bl
  h2 : wc.heap.size ≤ xb
  bel : Below wc.heap.size wc wx
theorem openX_a {wc w' : World} {b : Nat} (hb : Hid (Below wc.drew.heap.size wc.drew w')) : OpenX wc b w'.heap.size (w'.heap.size + 1) ((w'.alloc (.cells #[.pointer (some ⟨b, 0, none⟩), .slice none 0 0, .slice none 0 0, .string zero32, .int .i64 0, .bool false] 87)).alloc (.cells #[.pointer (some ⟨w'.heap.size, 0, none⟩)] 33)) := by
  have hb' : Below wc.heap.size wc w' := ((Below.refl _ wc).drew).trans hb.out
  refine ⟨(Blk.new w' 87 [.pointer (some ⟨b, 0, none⟩), .slice none 0 0, .slice none 0 0, .string zero32, .int .i64 0, .bool false]).alloc _, ?_, by omega, hb'.size, by have := hb'.size; omega, (hb'.alloc hb'.size _).alloc (by have := hb'.size; simp; omega) _⟩
  have := Blk.new (w'.alloc (.cells #[.pointer (some ⟨b, 0, none⟩), .slice none 0 0, .slice none 0 0, .string zero32, .int .i64 0, .bool false] 87)) 33 [.pointer (some ⟨w'.heap.size, 0, none⟩)]
  rw [World.size_alloc] at this
  exact this
theorem openX_b {wc w' : World} {b : Nat} (hb : Hid (Below wc.drew.heap.size wc.drew w')) : OpenX wc b (w'.heap.size + 1) w'.heap.size ((w'.alloc (.cells #[.pointer (some ⟨w'.heap.size + 1, 0, none⟩)] 33)).alloc (.cells #[.pointer (some ⟨b, 0, none⟩), .slice none 0 0, .slice none 0 0, .string zero32, .int .i64 0, .bool false] 87)) := by
  have hb' : Below wc.heap.size wc w' := ((Below.refl _ wc).drew).trans hb.out
  refine ⟨?_, (Blk.new w' 33 [.pointer (some ⟨w'.heap.size + 1, 0, none⟩)]).alloc _, by omega, by have := hb'.size; omega, hb'.size, (hb'.alloc hb'.size _).alloc (by have := hb'.size; simp; omega) _⟩
  have := Blk.new (w'.alloc (.cells #[.pointer (some ⟨w'.heap.size + 1, 0, none⟩)] 33)) 87 [.pointer (some ⟨b, 0, none⟩), .slice none 0 0, .slice none 0 0, .string zero32, .int .i64 0, .bool false]
  rw [World.size_alloc] at this
  exact this
theorem openX_c {wc w' : World} {b : Nat} (hb : Hid (Below (wc.alloc (.cells #[.pointer none] 33)).drew.heap.size (wc.alloc (.cells #[.pointer none] 33)).drew w')) : OpenX wc b w'.heap.size wc.heap.size ((w'.setCell ⟨wc.heap.size, 0, none⟩ (.pointer (some ⟨w'.heap.size, 0, none⟩))).alloc (.cells #[.pointer (some ⟨b, 0, none⟩), .slice none 0 0, .slice none 0 0, .string zero32, .int .i64 0, .bool false] 87)) := by
  have hn := (Blk.new wc 33 [.pointer none]).drew
  have hx : Blk w' wc.heap.size 33 [.pointer none] := hn.kept (hb.out.block _ hn.lt)
  have h0 : Below wc.heap.size wc w' := (((Below.refl _ wc).alloc (Nat.le_refl _) (.cells #[.pointer none] 33)).drew).trans (hb.out.mono (by simp))
  have hz : (w'.setCell ⟨wc.heap.size, 0, none⟩ (.pointer (some ⟨w'.heap.size, 0, none⟩))).heap.size = w'.heap.size := by simp [World.setCell]
  refine ⟨?_, (hx.set 0 _).alloc _, by have := hx.lt; omega, h0.size, Nat.le_refl _, (h0.setCell (p := ⟨wc.heap.size, 0, none⟩) (Nat.le_refl _) _).alloc (by rw [hz]; exact h0.size) _⟩
  have := Blk.new (w'.setCell ⟨wc.heap.size, 0, none⟩ (.pointer (some ⟨w'.heap.size, 0, none⟩))) 87 [.pointer (some ⟨b, 0, none⟩), .slice none 0 0, .slice none 0 0, .string zero32, .int .i64 0, .bool false]
  rw [hz] at this
  exact this
theorem box_facts {W w1 : World} {v : Value} {t : TypeId} (hb : Below (W.alloc (.cells #[v] t)).drew.heap.size (W.alloc (.cells #[v] t)).drew w1) : w1.cell? ⟨W.heap.size, 0, none⟩ = some v ∧ w1.frozen? ⟨W.heap.size, 0, none⟩ = false ∧ W.heap.size < w1.heap.size := by
  have h : Blk w1 W.heap.size t [v] := (Blk.new W t [v]).drew.kept (hb.block _ (Blk.new W t [v]).drew.lt)
  exact ⟨h.cell 0, h.frozen 0, h.lt⟩
theorem below_put {N : Nat} {W A : World} (h : Below N W A) (hA : N ≤ A.heap.size) {l : Nat} (hl : N ≤ l) (o : Obj) : Below N W (A.putObj l o) :=
  h.trans ((Fr.put (S := fun c => c = l) A l o rfl).below N hA (fun c hc => by omega))
theorem repeat_zero (k : Nat) : Lib.repeatL (⟨#[0]⟩ : ByteArray).data.toList k = zeroL k := by
  have := Lib.repeatL_replicate 0 1 k
  rw [Nat.mul_one] at this
  exact this
/-- What Open leaves. -/
def OpenP (W : World) (B b bd bv : Nat) (vp : Value) (D : DS) (e : Ending) (w' : World) : Prop :=
  ∃ vp', DkAt w' B b bd bv vp' (openD D) ∧ (∀ k, vp'.ownBlock = some k → vp.ownBlock = some k ∨ W.heap.size ≤ k) ∧ Fr (Foot b bd bv vp) W w' ∧
    ((openE D = 0 ∧ ∃ bl vr ve, e = .returned (.tuple #[.pointer (some ⟨bl, 0, none⟩), .int .i64 0]) ∧ LgAt w' W.heap.size bl b vr ve (openR D) false ∧ ∀ k, LFoot bl vr ve k → ¬ Foot b bd bv vp' k) ∨
     (openE D ≠ 0 ∧ e = .returned (.tuple #[.pointer none, .int .i64 (openE D)])))
set_option maxHeartbeats 16000000 in
set_option maxRecDepth 100000 in
theorem open_any (W : World) (B b bd bv : Nat) (vp : Value) (D : DS) (hB : B ≤ W.heap.size) (ht : TabAt W) (hpl : D.pend.length ≤ 900000) (hcut : D.cut ≤ 9223372036854775807) (h : DkAt W B b bd bv vp D) :
    Calls Tryz.prog 32 #[.pointer (some ⟨b, 0, none⟩)] W (OpenP W B b bd bv vp D) := by
  obtain ⟨N, hN⟩ : ∃ N, W.heap.size = N := ⟨_, rfl⟩
  have hb1 : Below N W (W.alloc (.cells #[.pointer (some ⟨b, 0, none⟩)] 24)) := by rw [← hN]; exact (Below.refl _ W).alloc (Nat.le_refl _) _
  have hd1 : DkAt (W.alloc (.cells #[.pointer (some ⟨b, 0, none⟩)] 24)) B b bd bv vp D := h.kept (fun k hk => hb1.block k (by rw [← hN]; exact h.lt k hk))
  have hbx : Blk (W.alloc (.cells #[.pointer (some ⟨b, 0, none⟩)] 24)) N 24 [.pointer (some ⟨b, 0, none⟩)] := by rw [← hN]; exact Blk.new W _ _
  have hz1 : (W.alloc (.cells #[.pointer (some ⟨b, 0, none⟩)] 24)).heap.size = N + 1 := by rw [← hN]; simp
  obtain ⟨w1, hw1⟩ : ∃ w1, W.alloc (.cells #[.pointer (some ⟨b, 0, none⟩)] 24) = w1 := ⟨_, rfl⟩
  rw [hw1] at hb1 hd1 hbx hz1
  have HN := Lib.hid hN
  have HW1 := Lib.hid hw1
  have HZ1 := Lib.hid hz1
  have HB1 := Lib.hid hb1
  have HD1 := Lib.hid hd1
  have HBX := Lib.hid hbx
  have HT := Lib.hid ht
  have HD := Lib.hid h
  have hm := h.max
  clear hN hw1 hz1 hb1 hd1 hbx ht h
  refine callsIn_wide.1 (callsIn_of_wp_marks (n := 5) Tryz.func32 rfl trivial ?_ rfl)
  refine wpIn_wide.2 ?_
  simp only [Tryz.ntmps32, List.size_toArray, List.length_cons, List.length_nil, Nat.reduceAdd, Nat.reduceSub, Array.replicate_succ, Array.replicate_zero, List.push_toArray, List.append_toArray, List.nil_append, List.cons_append]
  go_upto_region 1 with (fail)
  go_step3
  go_upto_region 1 with (fail)
  rw [HW1.out, HN.out]
  have c0 := HBX.out.cell 0
  simp only [List.getElem?_cons_zero] at c0
  go_upto_region 3 with (fail)
  obtain ⟨c, hc⟩ : ∃ c : ByteArray, (⟨(readL D 0 (D.vis.length : Int)).toArray⟩ : ByteArray) = c := ⟨_, rfl⟩
  obtain ⟨er, her⟩ : ∃ er, readE D 0 (D.vis.length : Int) = er := ⟨_, rfl⟩
  have HSZ : Hid (∀ W', Below w1.heap.size w1 W' → Calls Tryz.prog 59 #[.pointer (some ⟨b, 0, none⟩)] W' fun e w' => e = .returned (.int .i64 (D.vis.length : Int)) ∧ W' = w') := fun W' hW => size_any W' B b bd bv vp D (HD1.out.kept (fun k hk => hW.block k (HD1.out.lt k hk)))
  have HRD : Hid (∀ W', Below w1.heap.size w1 W' → Calls Tryz.prog 60 #[.pointer (some ⟨b, 0, none⟩), .int .i64 0, .int .i64 (D.vis.length : Int)] W' fun e w' => e = .returned (.tuple #[.string c, .int .i64 er]) ∧ W' = w') := fun W' hW => by
    have := read_any W' B b bd bv vp D 0 (D.vis.length : Int) (by omega) (by omega) (by omega) (by omega) (HD1.out.kept (fun k hk => hW.block k (HD1.out.lt k hk)))
    rw [hc, her] at this
    exact this
  have HC := Lib.hid hc
  have HER := Lib.hid her
  clear hc her
  have hlN : N < w1.heap.size := HBX.out.lt
  have HEB : Hid (Blk (w1.alloc (.cells #[.int .i64 er] 25)).drew (N + 1) 25 [.int .i64 er]) := by
    have := Blk.new w1 25 [.int .i64 er]
    rw [HZ1.out] at this
    exact this.drew
  have HEW : Hid (Below w1.heap.size w1 (w1.alloc (.cells #[.int .i64 er] 25)).drew) := ((Below.refl _ w1).alloc (Nat.le_refl _) _).drew
  go_cut [4, 5] from 12 to 18 (fun s4 s5 wx => s4 = .string c ∧ s5 = .pointer (some ⟨N + 1, 0, none⟩) ∧ Blk wx (N + 1) 25 [.int .i64 er] ∧ Below w1.heap.size w1 wx)
  case first =>
    go_region_held3 (fun W => W.cell? ⟨N, 0, none⟩ = some (.pointer (some ⟨b, 0, none⟩))) (go_keep) (first
      | ((with_reducible refine (HSZ.out _ (by first | exact (Below.refl _ _).drew | exact ((Below.refl _ _).alloc (Nat.le_refl _) _).drew | exact Below.refl _ _)).mono ?_); rintro e w' ⟨rfl, rfl⟩)
      | ((with_reducible refine (HRD.out _ (by first | exact (Below.refl _ _).drew | exact ((Below.refl _ _).alloc (Nat.le_refl _) _).drew | exact Below.refl _ _)).mono ?_); rintro e w' ⟨rfl, rfl⟩))
    all_goals (go_wp2_with fail; go_meet; exact ⟨rfl, by rw [HZ1.out], HEB.out, HEW.out⟩)
  case rest =>
    obtain ⟨rfl, rfl, hE, hB2⟩ := hcut
    obtain ⟨w2, rfl⟩ : ∃ w2 : World, w2 = wc := ⟨_, rfl⟩
    have HE := Lib.hid hE
    have HB2 := Lib.hid hB2
    clear hE hB2 HEB HEW HSZ HRD c0
    have HBW : Hid (Below N W w2) := HB1.out.trans (HB2.out.mono (by rw [HZ1.out]; omega))
    cases hl : D.lost with
    | true =>
      have e1 : er = 241 := by rw [← HER.out]; unfold readE; rw [hl]; rfl
      have e2 : openE D = 241 := by unfold openE; rw [hl]; rfl
      have e3 : openD D = D := by unfold openD; rw [hl]; rfl
      subst e1
      have d0 := HE.out.cell 0
      simp only [List.getElem?_cons_zero] at d0
      have E2 := Lib.hid e2
      have E3 := Lib.hid e3
      clear e2 e3 hl
      go_wp2_with fail
      go_quiet (fail)
      go_wp2_with fail
      rw [Exit.noGoto_ret]
      refine postM_ret (v := .tuple #[.pointer none, .int .i64 241]) (by simp [results, Tryz.results32, go_sem]) ⟨vp, ?_, fun k hk => .inl hk, ?_, .inr ⟨by rw [E2.out]; decide, by rw [E2.out]⟩⟩
      · rw [E3.out]
        exact (HD1.out.kept (fun k hk => HB2.out.block k (HD1.out.lt k hk))).kept (fun k hk => rfl)
      · exact Fr.under _ (by rw [HN.out]; exact drewN_below HBW.out nq)
    | false =>
      have e1 : er = 0 := by rw [← HER.out]; unfold readE; rw [hl, insB_zero]; rfl
      have e2 : c.data.toList = D.vis := by rw [← HC.out]; unfold readL; rw [hl, insB_zero]; simp
      subst e1
      have hcz : c.size = D.vis.length := by rw [← e2, blen]
      have d0 := HE.out.cell 0
      have c0 : w2.cell? ⟨N, 0, none⟩ = some (.pointer (some ⟨b, 0, none⟩)) := (HB2.out.cell (p := ⟨N, 0, none⟩) hlN).trans (HBX.out.cell 0)
      simp only [List.getElem?_cons_zero] at d0 c0
      have HL := Lib.hid hl
      have HCV := Lib.hid e2
      have hNc : N < w2.heap.size := by have := HB2.out.size; omega
      have hEc : N + 1 < w2.heap.size := HE.out.lt
      clear hl e2
      go_upto_region 6 with (fail)
      go_cut [6] from 22 to 25 (fun s6 wx => ∃ bl xb, s6 = .pointer (some ⟨xb, 0, none⟩) ∧ Hid (OpenX w2 b bl xb wx))
      case first =>
        have hNX : ¬ N = w2.heap.size := by omega
        have hNX' : ¬ w2.heap.size = N := by omega
        go_region_held3 (fun W => W.cell? ⟨N, 0, none⟩ = some (.pointer (some ⟨b, 0, none⟩))) (first | go_keep | assumption | (rw [World.cell?_setCell_other _ _ _ _ (by simp; omega)]; go_keep) | (rw [World.cell?_setCell_other _ _ _ _ (by simp; omega)]; simp [c1, l1, l0])) ((((with_reducible refine (start_any _).mono ?_); rintro e w' ⟨rfl, hb⟩; have l0 := hb.size; (try simp at l0); have l1 : N < w'.heap.size := Nat.lt_of_lt_of_le (by first | exact hNc | (simp; omega)) hb.size; have c1 : w'.cell? ⟨N, 0, none⟩ = some (.pointer (some ⟨b, 0, none⟩)) := (hb.cell (p := ⟨N, 0, none⟩) (by first | exact hNc | (simp; omega))).trans (by first | exact c0 | assumption); have HBS := Lib.hid hb; (first | (have hbX : Below (w2.alloc (.cells #[.pointer none] 33)).drew.heap.size (w2.alloc (.cells #[.pointer none] 33)).drew w' := hb; obtain ⟨x1, x2, x3⟩ := box_facts hbX; clear hbX) | skip); clear hb)))
        all_goals
          go_wp2_with fail
          go_meet
          first
            | exact ⟨_, _, rfl, openX_a (by assumption)⟩
            | exact ⟨_, _, rfl, openX_b (by assumption)⟩
            | exact ⟨_, _, rfl, openX_c (by assumption)⟩
      case rest =>
        obtain ⟨bl, xb, rfl, HX⟩ := hcut
        obtain ⟨w3, rfl⟩ : ∃ w3 : World, w3 = wc := ⟨_, rfl⟩
        clear d0 c0
        go_wp2_with fail
        go_step3
        go_wp2_with fail
        refine (scan_any c w3).mono ?_
        rintro e w4 ⟨rfl, hw4⟩
        obtain ⟨Bn, hBn⟩ : ∃ Bn, w3.heap.size = Bn := ⟨_, rfl⟩
        rw [hBn]
        have HBN := Lib.hid hBn
        have HW4 := Lib.hid hw4
        clear hBn hw4
        go_wp2_with fail
        obtain ⟨n4, hn4⟩ : ∃ n4, w4.heap.size = n4 := ⟨_, rfl⟩
        have hz4 : n4 = Bn + 1 := by rw [← hn4, HW4.out, World.size_alloc, HBN.out]
        have hb4 : Below w3.heap.size w3 w4 := by rw [HW4.out]; exact (Below.refl _ _).alloc (Nat.le_refl _) _
        have hbn4 : Blk w4 Bn 9 [.string c] := by rw [HW4.out, ← HBN.out]; exact Blk.new w3 _ _
        have hx1 := HX.out.lg.lt
        have hx2 := HX.out.px.lt
        have hx3 := HX.out.h1
        have hx4 := HX.out.h2
        have hx5 := HX.out.ne
        have hbn3 := HBN.out
        have hsz3 : w2.heap.size ≤ w3.heap.size := HX.out.bel.size
        have HBW3 : Hid (Below N W w3) := HBW.out.trans (HX.out.bel.mono (by omega))
        have HBW4 : Hid (Below N W w4) := HBW3.out.trans (hb4.mono (by omega))
        have hT4 : TabAt w4 := HT.out.below (by rw [HN.out]; exact HBW4.out)
        have hgN : 0 < N := by rw [← HN.out]; exact HT.out.lt
        have hoi0 : OI W N b bl xb n4 ([] : List Rec) (.slice none 0 0) (.slice none 0 0) w4 := by
          refine ⟨⟨?_, World.ownsRow_nil _ _ _ _, World.ownsRow_nil _ _ _ _, fun r hr => by simp at hr, by omega, fun g hg => by simp [Value.ownBlock] at hg, fun g hg => by simp [Value.ownBlock] at hg⟩, ?_, HBW4.out, ?_, ?_, ?_, hT4, HN.out, by omega, by omega, by omega, by omega, hx5, by omega, hgN⟩
          · exact HX.out.lg.kept (hb4.block _ hx1)
          · intro k hk
            rcases hk with rfl | hk | hk
            · exact .inl rfl
            · simp [Value.ownBlock] at hk
            · simp [Value.ownBlock] at hk
          · exact ((HBX.out.kept (HB2.out.block _ HBX.out.lt)).kept (HX.out.bel.block _ hNc)).kept (hb4.block _ (by omega))
          · exact (HE.out.kept (HX.out.bel.block _ hEc)).kept (hb4.block _ (by omega))
          · exact HX.out.px.kept (hb4.block _ hx2)
        obtain ⟨L, hL⟩ : ∃ L, openR D = L := ⟨_, rfl⟩
        have hit : itemsC c.data.toList = itemF zero32 0 L := by
          unfold itemsC
          rw [HCV.out, ← hL]
          rfl
        have hLv : ∀ r ∈ L, validR r = true := by rw [← hL]; exact (openR_back D).1
        have hLn : L.length ≤ 900000 := by
          have h1 := (openR_back D).2.2
          have h2 := (logL_bd zero32 L).2
          rw [hL] at h1
          unfold endN at h1
          omega
        have hblBn : bl < Bn := by omega
        have HSQ := Lib.hid (scan_seq 4 (by decide) Bn c w4 (by omega) hbn4 hT4)
        rw [hit] at HSQ
        obtain ⟨stops, hst⟩ : ∃ stops, (scanP c.data.toList).2 = stops := ⟨_, rfl⟩
        rw [hst] at HSQ
        have HST := Lib.hid hst
        have HLV := Lib.hid hLv
        have HLL := Lib.hid hL
        have hO0 := Lib.hid hoi0
        have HN4 := Lib.hid hn4
        obtain ⟨hz5, hz6⟩ : Bn < n4 ∧ n4 ≤ Bn + 1 := by omega
        clear hz4
        clear hst hLv hL hit hoi0 hbn4 hb4 hT4 hn4
        refine (wpIn_wide (n := 5)).1 ?_
        refine range_own (Safe := fun b' => b' = Bn ∨ b' = 0) (xs := itemF zero32 0 L) (Bad := fun z => z.ok = false) (stops := stops) (encs := sxEncs) (w0 := w4) rfl (by decide) (gf := 101) (lb := #[.pointer (some ⟨Bn, 0, none⟩)]) rfl trivial (enters_of Tryz.func101 (by kernel_rfl) rfl)
          HSQ.out 0 (Below.refl _ _) (fun _ => rfl)
          (fun k S A => ∃ vr ve, S = LFoot bl vr ve ∧ OI W N b bl xb n4 (L.take k) vr ve A) ?hI ?hIp ?hIs
          (fun A => OZ W N n4 A) (fun A A' h hb => h.below hb) ?hIzp ⟨_, _, _, rfl, by rw [List.take_zero]; exact hO0.out⟩
          (fun k S x a' A => ∃ sb vr ve, a' = { tmps := #[.pointer (some ⟨b, 0, none⟩), .pointer (some ⟨N, 0, none⟩), .pointer none, .int .i64 0, .string c, .pointer (some ⟨N + 1, 0, none⟩), .pointer (some ⟨xb, 0, none⟩), .pointer (some ⟨sb, 0, none⟩), .bool x.ok, undef, .pointer (some ⟨b, 0, none⟩), .bool false, u12, u13, u14, u15, u16, u17, u18, .int .i64 0, .bool false, undef, u22, u23, u24, u25, .string c, .func (.func 101) #[] #[.pointer (some ⟨Bn, 0, none⟩)], .agg (stA x.r x.enc x.h x.n), .bool x.ok, undef, undef, undef, undef, undef, undef, undef, undef, undef, undef, undef, undef, undef, undef, undef, undef, undef, undef, undef, undef, undef, undef, undef, undef, undef, undef, undef, undef, undef, undef, undef, undef, undef], defers := [] } ∧ Blk A sb 103 (stA x.r x.enc x.h x.n).toList ∧ S = LFoot bl vr ve ∧ OI W N b bl xb n4 (L.take k) vr ve A) ?hMid ?hassign ?hbody ?hbodyZ ?hdoneZ ?hdone
        case hI =>
          rintro k S A A' ⟨vr, ve, hs, h⟩ hb
          exact ⟨vr, ve, hs, h.below hb⟩
        case hIp =>
          rintro k S A l o o' ⟨vr, ve, hs, h⟩ hl ho hlt
          exact ⟨vr, ve, hs, h.put hl ho (by rw [← HN4.out]; exact hlt) o'⟩
        case hIs =>
          rintro k S A ⟨vr, ve, rfl, h⟩ b' hb'
          refine ⟨h.lg.lt _ hb', fun e => ?_⟩
          rcases h.far b' hb' with h1 | h1 <;> rcases e with e | e <;> omega
        case hIzp =>
          rintro A l o o' h hl ho hlt
          exact h.put hl ho (by rw [← HN4.out]; exact hlt) o'
        case hMid =>
          rintro k S x a' A l o o' ⟨sb, vr, ve, ha, hsb, hs, h⟩ hl ho hlt
          exact ⟨sb, vr, ve, ha, hsb.kpS (KpS.put (S := fun _ => False) A l o o' hl ho) (fun e => e), hs, h.put hl ho (by rw [← HN4.out]; exact hlt) o'⟩
        case hassign =>
          rintro l k S x A K ⟨vr, ve, hs, h⟩ hx hn hK
          have hb : Below A.heap.size A (A.alloc (.cells (stA x.r x.enc x.h x.n) 103)) := (Below.refl _ A).alloc (Nat.le_refl _) _
          have HKK := Lib.hid (hK _ _ ((Fr.under (fun _ => False) hb).others' (fun _ _ e => e.elim)) (KpS.below hb) ⟨A.heap.size, vr, ve, rfl, Blk.new A 103 (stA x.r x.enc x.h x.n).toList, hs, h.below hb⟩)
          clear hK h hs hx hn hb
          dsimp only [sxEncs, stA] at HKK ⊢
          gi_wp2
          exact HKK.out
        case hbody =>
          rintro l k S x a' A ⟨sb, vr, ve, rfl, hsb, rfl, h⟩ hx
          obtain ⟨r, hr, rfl⟩ := item_at _ _ _ _ _ hx
          have hkl : k < L.length := (List.getElem?_eq_some_iff.1 hr).1
          have htk : L.take (k + 1) = L.take k ++ [r] := by
            rw [List.take_succ_eq_append_getElem hkl]
            rw [List.getElem?_eq_getElem hkl] at hr
            rw [Option.some.inj hr]
          rw [htk] at hsb ⊢
          have hADD := add_any A N bl b vr ve (L.take k) false r (HLV.out r (List.mem_of_getElem? hr)) (by rw [List.length_take]; omega) (by have := h.n7; have := h.n2; have := h.n1; omega) h.tab hgN h.lg
          have hen : (0 + (logL zero32 (L.take k ++ [r])).length : Nat) = endN (L.take k ++ [r]) := by rw [Nat.zero_add]; rfl
          rw [hen, show headF zero32 (L.take k ++ [r]) = headR (L.take k ++ [r]) from rfl] at hsb ⊢
          have HADD := Lib.hid (fun n => (callsIn_wide (n := n)).2 hADD)
          have HOI := Lib.hid h
          generalize headR (L.take k ++ [r]) = hd at hsb HADD ⊢
          generalize endN (L.take k ++ [r]) = en at hsb HADD ⊢
          generalize encB r = ec at hsb HADD ⊢
          have x0 := hsb.cell 0
          have x1 := hsb.cell 1
          have x2 := hsb.cell 2
          have x3 := hsb.cell 3
          have x4 := hsb.cell 4
          have x5 := hsb.cell 5
          have x6 := hsb.cell 6
          have x7 := hsb.cell 7
          have x8 := hsb.cell 8
          have p0 := h.px.cell 0
          simp only [stA, List.getElem?_cons_zero, List.getElem?_cons_succ] at x0 x1 x2 x3 x4 x5 x6 x7 x8 p0
          have HTK := Lib.hid htk
          clear hx hr hkl htk h hsb hADD hen
          dsimp only [stA] at HADD ⊢
          gi_wp2
          refine ⟨trivial, ((HADD.out _).inRound l).mono ?_⟩
          rintro e w' ha
          obtain ⟨⟨v, rfl⟩, hko, hkp, vr', ve', h'⟩ := HOI.out.add ha
          have HKO := Lib.hid hko
          have HKP := Lib.hid hkp
          have HO' := Lib.hid h'
          clear ha hko hkp h' x0 x1 x2 x3 x4 x5 x6 x7 x8 p0 HADD
          gi_wp2
          exact ⟨HKO.out, HKP.out, _, vr', ve', rfl, HO'.out⟩
        case hbodyZ =>
          rintro l S x a' A ⟨sb, vr, ve, rfl, hsb, rfl, h⟩ hx
          have hok : x.ok = false := hx
          have c0 := h.er.cell 0
          have f0 := h.er.frozen 0
          simp only [List.getElem?_cons_zero] at c0
          have hfr : Fr (fun k => k = N + 1) A (A.setCell ⟨N + 1, 0, none⟩ (.int .i64 252)) := (Fr.refl _ A).setCell _ _ (.inl rfl)
          have HKO : Hid (KeepsOthers A (A.setCell ⟨N + 1, 0, none⟩ (.int .i64 252))) := hfr.others' (fun k o hs ho => by
            subst hs
            rw [show A.heap[N + 1]? = _ from h.er] at ho
            cases ho
            rfl)
          have HOZ : Hid (OZ W N n4 (A.setCell ⟨N + 1, 0, none⟩ (.int .i64 252))) := ⟨h.bel.setCell (p := ⟨N + 1, 0, none⟩) (by show N ≤ N + 1; omega) _, h.er.set 0 _, by have := h.n1; have := h.n2; omega, by have := h.n7; have := hfr.size; omega⟩
          rw [hok]
          clear hx hok hsb h hfr
          dsimp only [stA]
          gi_wp2
          exact ⟨HKO.out, HOZ.out⟩
        case hdoneZ =>
          rintro D' A hst hD hz hdef
          have hbad : (scanP D.vis).2 = true := by rw [← HCV.out, HST.out]; exact hst
          have e2 : openE D = 252 := by unfold openE; rw [HL.out, hbad]; rfl
          have e3 : openD D = D := by unfold openD; rw [HL.out, hbad]; rfl
          have E2 := Lib.hid e2
          have E3 := Lib.hid e3
          have HDF := Lib.hid hdef
          have HZZ := Lib.hid hz
          have d0 := hz.er.cell 0
          simp only [List.getElem?_cons_zero] at d0
          clear hst hbad e2 e3 hdef hz
          refine wpIn_wide.2 ?_
          go_wp2_with fail
          go_quiet (fail)
          go_wp2_with fail
          rw [Exit.noGoto_ret]
          have hN4 : n4 ≤ D' := by rw [← HN4.out]; exact hD
          have HB9 : Below N W ((A.drewN nq).putObj D' (.deferred none)) := below_put (drewN_below HZZ.out.bel nq) (by have := HZZ.out.n7; have := HZZ.out.n1; show N ≤ A.heap.size; omega) (by have := HZZ.out.n1; omega) _
          refine postM_mark (v := .tuple #[.pointer none, .int .i64 252]) HDF.out (by simp [results, Tryz.results32, go_sem]) ⟨vp, ?_, fun k hk => .inl hk, Fr.under _ (by rw [HN.out]; exact HB9), .inr ⟨by rw [E2.out]; decide, by rw [E2.out]⟩⟩
          rw [E3.out]
          exact HD.out.kept (fun k hk => HB9.block k (by rw [← HN.out]; exact HD.out.lt k hk))
        case hdone =>
          rintro D' A hst hD ⟨S, vr, ve, _, h⟩ hdef
          rw [itemF_len, List.take_length] at h
          have hbad : (scanP D.vis).2 = false := by rw [← HCV.out, HST.out]; exact hst
          have hN4 : n4 ≤ D' := by rw [← HN4.out]; exact hD
          have hEle : endN L ≤ D.vis.length := by have := (openR_back D).2.2; rw [HLL.out] at this; exact this
          obtain ⟨E, hE'⟩ : ∃ E, endN L = E := ⟨_, rfl⟩
          rw [hE'] at hEle
          have HEN := Lib.hid hE'
          have d0 := h.er.cell 0
          have p0 := h.px.cell 0
          have l4 := h.lg.blk.cell 4
          rw [hE'] at l4
          simp only [List.getElem?_cons_zero, List.getElem?_cons_succ] at d0 p0 l4
          obtain ⟨kz, hkz⟩ : ∃ kz, D.vis.length - E = kz := ⟨_, rfl⟩
          have hsub : (c.size : Int) - (E : Int) = (kz : Int) := by omega
          have hkz0 : kz ≤ 4194304 := by omega
          have hEc2 : E ≤ c.size := by omega
          have HRP : Hid (∀ W', Calls Tryz.prog 77 #[.string ⟨#[0]⟩, .int .i64 (kz : Int)] W' fun e w' => e = .returned (.string (zerosB kz)) ∧ Below W'.heap.size W' w') := fun W' => by
            have := Tryz.strings_Repeat ⟨#[0]⟩ kz W' (by omega) (by show 1 * kz ≤ _; omega)
            rw [show (⟨(Lib.repeatL (⟨#[0]⟩ : ByteArray).data.toList kz).toArray⟩ : ByteArray) = zerosB kz from by rw [repeat_zero]; rfl] at this
            exact this
          have HCZ := Lib.hid hcz
          have HKZ := Lib.hid hkz
          have HSB := Lib.hid hbad
          have HDF := Lib.hid hdef
          have HOI := Lib.hid h
          clear hst hbad hE' hkz hdef h hcz
          go_wp2_with fail
          refine (HRP.out _).mono ?_
          rintro e w5 ⟨rfl, hb5⟩
          have HOI5 := Lib.hid (HOI.out.below hb5)
          have HDF5 : Hid (w5.heap[D']? = some (.deferred (some []))) := (hb5.block D' (Array.getElem?_eq_some_iff.1 HDF.out).1).trans HDF.out
          clear hb5 HOI HDF d0 p0 l4 HRP
          have d0 := HOI5.out.er.cell 0
          have p0 := HOI5.out.px.cell 0
          have l4 := HOI5.out.lg.blk.cell 4
          rw [HEN.out] at l4
          simp only [List.getElem?_cons_zero, List.getElem?_cons_succ] at d0 p0 l4
          obtain ⟨Z, hZ⟩ : ∃ Z, zerosB kz = Z := ⟨_, rfl⟩
          rw [hZ]
          have hb6 : Below w5.heap.size w5 (w5.alloc (.cells #[.string Z] 9)) := (Below.refl _ _).alloc (Nat.le_refl _) _
          have HOI6 := Lib.hid (HOI5.out.below hb6)
          have HDF6 : Hid ((w5.alloc (.cells #[.string Z] 9)).heap[D']? = some (.deferred (some []))) := (hb6.block D' (Array.getElem?_eq_some_iff.1 HDF5.out).1).trans HDF5.out
          have HZB : Hid (Blk (w5.alloc (.cells #[.string Z] 9)) w5.heap.size 9 [.string Z]) := Blk.new w5 _ _
          have HZ := Lib.hid hZ
          clear hZ hb6
          go_upto_region 16 with (fail)
          obtain ⟨zb, hzb⟩ : ∃ zb, w5.heap.size = zb := ⟨_, rfl⟩
          rw [hzb] at HZB ⊢
          have hzb4 : n4 ≤ zb := by rw [← hzb]; exact HOI5.out.n7
          clear hzb d0 p0 l4
          generalize w5.alloc (.cells #[.string Z] 9) = w6 at HOI6 HDF6 HZB ⊢
          have d0 := HOI6.out.er.cell 0
          have p0 := HOI6.out.px.cell 0
          have l4 := HOI6.out.lg.blk.cell 4
          have z0 := HZB.out.cell 0
          have b0 := HOI6.out.bx.cell 0
          rw [HEN.out] at l4
          simp only [List.getElem?_cons_zero, List.getElem?_cons_succ] at d0 p0 l4 z0 b0
          have hcmp : ((c.extract E c.size).toList == Z.toList) = decide (D.vis.drop E = zeroL kz) := by
            rw [← HCV.out, ← HZ.out, Bool.eq_iff_iff, beq_iff_eq, decide_eq_true_iff, ByteArray.toList_eq, ByteArray.toList_eq, zerosB_data, ByteArray.data_extract, Array.toList_extract, List.extract_eq_take_drop, List.take_of_length_le (by rw [List.length_drop, blen]; omega)]
          by_cases hz : D.vis.drop E = zeroL kz
          · rw [decide_eq_true hz] at hcmp
            have e2 : openE D = 0 := by
              unfold openE
              rw [HL.out, HSB.out, HLL.out, HEN.out, HKZ.out, if_pos hz]
              rfl
            have e3 : openD D = D := by
              unfold openD
              rw [HL.out, HSB.out, HLL.out, HEN.out, HKZ.out, if_pos hz]
              rfl
            have E2 := Lib.hid e2
            have E3 := Lib.hid e3
            clear e2 e3 hz
            go_quiet (fail)
            go_wp2_with fail
            rw [Exit.noGoto_ret]
            have hoi9 : OI W N b bl xb n4 L vr ve ((w6.drewN nq).putObj D' (.deferred none)) := (HOI6.out.below (drewN_below (Below.refl _ _) nq)).put HDF6.out rfl hN4 _
            refine postM_mark (v := .tuple #[.pointer (some ⟨bl, 0, none⟩), .int .i64 0]) HDF6.out (by simp [results, Tryz.results32, go_sem]) ⟨vp, ?_, fun k hk => .inl hk, Fr.under _ (by rw [HN.out]; exact hoi9.bel), .inl ⟨E2.out, bl, vr, ve, rfl, ?_, ?_⟩⟩
            · rw [E3.out]
              exact HD.out.kept (fun k hk => hoi9.bel.block k (by rw [← HN.out]; exact HD.out.lt k hk))
            · rw [HLL.out, HN.out]
              exact hoi9.lg
            · intro k hk hk2
              have h1 := HD.out.lt k hk2
              rw [HN.out] at h1
              have h2 := hoi9.lg.ge k hk
              omega
          · rw [decide_eq_false hz] at hcmp
            have e2 : openE D = putE D E Z := by
              unfold openE
              rw [HL.out, HSB.out, HLL.out, HEN.out, HKZ.out, if_neg hz, HZ.out]
              rfl
            have e3 : openD D = putD D E Z := by
              unfold openD
              rw [HL.out, HSB.out, HLL.out, HEN.out, HKZ.out, if_neg hz, HZ.out]
              rfl
            have hZs : Z.size = kz := by rw [← HZ.out, zerosB_size]
            have HZS := Lib.hid hZs
            have E2 := Lib.hid e2
            have E3 := Lib.hid e3
            clear e2 e3 hz hZs
            go_quiet (fail)
            have HOI8 := Lib.hid (HOI6.out.below (drewN_below (Below.refl _ _) nq))
            have HDF8 : Hid ((w6.drewN nq).heap[D']? = some (.deferred (some []))) := HDF6.out
            have HZB8 : Hid (Blk (w6.drewN nq) zb 9 [.string Z]) := HZB.out.kept rfl
            clear HOI6 HDF6 HZB d0 p0 l4 z0 b0 hcmp
            generalize w6.drewN nq = w8 at HOI8 HDF8 HZB8 ⊢
            have b0 := HOI8.out.bx.cell 0
            simp only [List.getElem?_cons_zero] at b0
            have hb9 : Below w8.heap.size w8 (w8.alloc (.cells #[.func (.func 78) #[] #[.pointer (some ⟨N, 0, none⟩), .pointer (some ⟨xb, 0, none⟩), .pointer (some ⟨zb, 0, none⟩)], .func (.func 48) #[.pointer (some ⟨b, 0, none⟩)] #[]] 105)) := (Below.refl _ _).alloc (Nat.le_refl _) _
            have HOI9 := Lib.hid (HOI8.out.below hb9)
            have HDF9 : Hid ((w8.alloc (.cells #[.func (.func 78) #[] #[.pointer (some ⟨N, 0, none⟩), .pointer (some ⟨xb, 0, none⟩), .pointer (some ⟨zb, 0, none⟩)], .func (.func 48) #[.pointer (some ⟨b, 0, none⟩)] #[]] 105)).heap[D']? = some (.deferred (some []))) := (hb9.block D' (Array.getElem?_eq_some_iff.1 HDF8.out).1).trans HDF8.out
            have HZB9 := Lib.hid (HZB8.out.kept (hb9.block zb HZB8.out.lt))
            have HBF9 : Hid (Blk (w8.alloc (.cells #[.func (.func 78) #[] #[.pointer (some ⟨N, 0, none⟩), .pointer (some ⟨xb, 0, none⟩), .pointer (some ⟨zb, 0, none⟩)], .func (.func 48) #[.pointer (some ⟨b, 0, none⟩)] #[]] 105)) w8.heap.size 105 [.func (.func 78) #[] #[.pointer (some ⟨N, 0, none⟩), .pointer (some ⟨xb, 0, none⟩), .pointer (some ⟨zb, 0, none⟩)], .func (.func 48) #[.pointer (some ⟨b, 0, none⟩)] #[]]) := Blk.new w8 _ _
            clear hb9
            go_wp2_with fail
            obtain ⟨bs, hbs⟩ : ∃ bs, w8.heap.size = bs := ⟨_, rfl⟩
            rw [hbs] at HBF9 ⊢
            have hbs4 : n4 ≤ bs := by rw [← hbs]; exact HOI8.out.n7
            clear hbs HOI8 HDF8 HZB8 b0
            generalize w8.alloc (.cells #[.func (.func 78) #[] #[.pointer (some ⟨N, 0, none⟩), .pointer (some ⟨xb, 0, none⟩), .pointer (some ⟨zb, 0, none⟩)], .func (.func 48) #[.pointer (some ⟨b, 0, none⟩)] #[]] 105) = w9 at HOI9 HDF9 HZB9 HBF9 ⊢
            have hnf : ∀ k, N ≤ k → ¬ Foot b bd bv vp k := fun k hk hf => by
              have := HD.out.lt k hf
              rw [HN.out] at this
              omega
            have hD9 : DkAt w9 B b bd bv vp D := HD.out.kept (fun k hk => HOI9.out.bel.block k (by rw [← HN.out]; exact HD.out.lt k hk))
            have hN9 : N ≤ w9.heap.size := by rw [← HN.out]; exact HOI9.out.bel.size
            have hbb := HOI9.out.lg.blk
            rw [HEN.out] at hbb
            have hFO := first_open w9 B b bd bv N xb zb bl bs E vp D Z vr ve (.string (headR L)) (.bool false) 105 (Nat.le_trans hB (by rw [HN.out]; exact hN9)) (by rw [HZS.out]; exact hkz0) (by omega) HL.out (by rw [HZS.out, ← HKZ.out]; omega) (by omega) hcut HOI9.out.bx HOI9.out.px HZB9.out hbb HBF9.out hD9 (hnf _ (Nat.le_refl _)) (hnf _ (by omega)) (hnf _ (by omega)) (hnf _ (by omega)) (hnf _ (by omega))
            obtain ⟨cc, hcc⟩ : ∃ cc, putE D E Z = cc := ⟨_, rfl⟩
            rw [hcc] at hFO E2
            have HFO := Lib.hid hFO
            have HNF := Lib.hid hnf
            clear hnf hD9 hbb hFO hcc HBF9 HZB9
            refine HFO.out.mono ?_
            rintro e A1 ⟨rfl, hS⟩
            have ber := steps_cell hS HOI9.out.er (HNF.out _ (by omega))
            have bpx := steps_cell hS HOI9.out.px (HNF.out _ (by omega))
            have c0 := ber.cell 0
            have f0 := ber.frozen 0
            have p0 := bpx.cell 0
            simp only [List.getElem?_cons_zero] at c0 p0
            have hne : ¬ xb = N + 1 := by omega
            have hne' : ¬ N + 1 = xb := by omega
            obtain ⟨vp', g1, g2, g3⟩ := hS
            have hDN : D' < w9.heap.size := (Array.getElem?_eq_some_iff.1 HDF9.out).1
            have hDF1 : A1.heap[D']? = some (.deferred (some [])) := (g3.block D' hDN (HNF.out _ (by omega))).trans HDF9.out
            have hDF2 : (A1.setCell ⟨N + 1, 0, none⟩ (.int .i64 cc)).heap[D']? = some (.deferred (some [])) := (Below.heap_setCell _ _ _ _ (by show D' ≠ N + 1; omega)).trans hDF1
            have HFIN : Hid (∀ nq, DkAt (((A1.setCell ⟨N + 1, 0, none⟩ (.int .i64 cc)).drewN nq).putObj D' (.deferred none)) B b bd bv vp' (putD D E Z) ∧ Fr (Foot b bd bv vp) W (((A1.setCell ⟨N + 1, 0, none⟩ (.int .i64 cc)).drewN nq).putObj D' (.deferred none)) ∧ LgAt (((A1.setCell ⟨N + 1, 0, none⟩ (.int .i64 cc)).drewN nq).putObj D' (.deferred none)) N bl b vr ve L false) := by
              intro nq
              have hf1 : Fr (fun k => k = N + 1 ∨ k = D') A1 (((A1.setCell ⟨N + 1, 0, none⟩ (.int .i64 cc)).drewN nq).putObj D' (.deferred none)) :=
                (((Fr.refl _ A1).setCell ⟨N + 1, 0, none⟩ (.int .i64 cc) (.inl (.inl rfl))).trans (Fr.under (fun _ => False) (drewN_below (Below.refl _ _) nq)) (fun _ _ e => e.elim)).trans (Fr.put (S := fun c => c = D') _ D' _ rfl) (fun i _ e => .inr e)
              have hsplit : ∀ k, Foot b bd bv vp' k → ¬ (k = N + 1 ∨ k = D') := fun k hk e => by
                rcases foot_new g2 k hk with h1 | h1
                · rcases e with e | e
                  · exact HNF.out k (by omega) h1
                  · exact HNF.out k (by omega) h1
                · have := HOI9.out.n7
                  rcases e with e | e <;> omega
              refine ⟨g1.fr hf1 hsplit, ?_, ?_⟩
              · have hW9 : Fr (Foot b bd bv vp) W w9 := Fr.under _ (by rw [HN.out]; exact HOI9.out.bel)
                refine (hW9.trans g3 (fun i hi e => e)).trans hf1 (fun i hi e => ?_)
                rw [HN.out] at hi
                rcases e with e | e <;> omega
              · have hl1 : LgAt A1 N bl b vr ve L false := HOI9.out.lg.fr g3 (fun k hk => HNF.out k (HOI9.out.lg.ge k hk))
                refine hl1.fr hf1 (fun k hk e => ?_)
                have h1 := HOI9.out.far k hk
                rcases e with e | e
                · rcases h1 with h1 | h1 <;> omega
                · subst e
                  obtain ⟨o, h2, h3⟩ := hl1.cells _ hk
                  rw [hDF1] at h2
                  cases h2
                  cases h3
            have G1 := Lib.hid g1
            have G2 := Lib.hid g2
            have HDF2 := Lib.hid hDF2
            clear ber bpx g1 g2 g3 hDF1 hDF2 HFO
            by_cases hc0 : cc = 0
            · subst hc0
              go_wp2_with fail
              rw [Exit.noGoto_ret]
              obtain ⟨k1, k2, k3⟩ := HFIN.out 0
              refine postM_mark (v := .tuple #[.pointer (some ⟨bl, 0, none⟩), .int .i64 0]) HDF2.out (by simp [results, Tryz.results32, go_sem]) ⟨vp', by rw [E3.out]; exact k1, fun k hk => ?_, k2, .inl ⟨E2.out, bl, vr, ve, rfl, by rw [HLL.out, HN.out]; exact k3, ?_⟩⟩
              · rw [HN.out]
                exact (G2.out k hk).imp_right (fun h => by omega)
              · intro k hk hk2
                rcases foot_new G2.out k hk2 with h1 | h1
                · exact HNF.out k (HOI9.out.lg.ge k hk) h1
                · have := HOI9.out.lg.lt k hk
                  omega
            · have hcb : (cc != 0) = true := by rw [bne_iff_ne]; exact hc0
              have HCN : Hid (cc ≠ 0) := hc0
              clear hc0
              go_wp2_with fail
              go_quiet (fail)
              go_wp2_with fail
              rw [Exit.noGoto_ret]
              obtain ⟨k1, k2, k3⟩ := HFIN.out nq
              refine postM_mark (v := .tuple #[.pointer none, .int .i64 cc]) (HDF2.out) (by simp [results, Tryz.results32, go_sem]) ⟨vp', by rw [E3.out]; exact k1, fun k hk => ?_, k2, .inr ⟨by rw [E2.out]; exact HCN.out, by rw [E2.out]⟩⟩
              rw [HN.out]
              exact (G2.out k hk).imp_right (fun h => by omega)
end Go.Proofs.YtfpcdlpfmlaakaaGreatDoor
