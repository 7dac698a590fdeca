/-
  The reference's Decode of orders.
-/
import Derived.Test.YtjkiidhnmljmbaaGreatDoorRkAC
import Derived.Test.YtjkiidhnmljmbaaGreatDoorLits
import Derived.Test.YtjkiidhnmljmbaaGreatDoorTk
import Derived.Test.YtjkiidhnmljmbaaGreatDoorRkPR
import Derived.Test.YtjkiidhnmljmbaaGreatDoorGqDF
import Derived.Test.YtjkiidhnmljmbaaGreatDoorOrJK
import Derived.Test.YtjkiidhnmljmbaaGreatDoorGoUV
set_option linter.unusedVariables false
set_option linter.unusedSimpArgs false
namespace Go.Proofs.YtjkiidhnmljmbaaGreatDoor
open Go.RowKit Onair
attribute [local go_sem] Oper.semAt_some
theorem rkT_len (l : List UInt8) (s : Int × Int) : (rkT l s).1.length ≤ l.length := by
  unfold rkT
  split
  · split
    · unfold strR
      split
      · split
        · exact Nat.zero_le _
        · show (List.take _ (List.drop _ l)).length ≤ _
          rw [List.length_take, List.length_drop]
          omega
      · exact Nat.zero_le _
    · exact Nat.zero_le _
  · exact Nat.zero_le _
theorem noOrd_dec {l : List UInt8} (h : NoOrd (ordR l)) : NoOrd (decR l) := by
  intro o al e
  unfold decR at e
  cases hr : ordR l with
  | ok p bl => exact h p bl hr
  | wire => rw [hr] at e; cases e
  | bad => rw [hr] at e; cases e
/-- How the reference's Decode of an order ends. -/
def Dec15 (W : World) (l : List UInt8) (en : Ending) (w' : World) : Prop := Below W.heap.size W w' ∧ ((∃ o al oa ac, decR l = .ok o al ∧ en = .returned (.tuple #[.agg (o.withA oa ac).l.toArray, .int .i64 0]) ∧ RdA w' oa al ∧ al.length = o.an ∧ o.an ≤ 100 ∧ o.txt.size ≤ maxLen ∧ ∀ a, oa = some a → W.heap.size ≤ a.block) ∨ (NoOrd (decR l) ∧ ∃ c : Int, c ≠ 0 ∧ en = .returned (.tuple #[.agg zeroO.l.toArray, .int .i64 c])))
theorem results_row_tmp {P : Program} {fn : Func} {p u : Tmp} {ty : TypeId} (h : fn.results = #[.cell p ty, .tmp u]) (tmps : Array Value) (w : World) (g : Nat) (t : TypeId) (cs : Array Value) (fr : Nat × Nat) (d : TypeDesc)
    (hp : tmps.getD p undef = .pointer (some ⟨g, 0, none⟩)) (hg : w.heap[g]? = some (.cells cs t fr))
    (hu : P.underlying ty = some d) (hd : (match d with | .struct _ | .array _ _ => true | _ => false) = true) (hi : (P.info? ty).map (·.size) = some cs.size) :
    (results fn tmps).run P w = .ok (.tuple #[.agg cs, tmps.getD u undef]) w := by
  have hp' : tmps[p]?.getD undef = .pointer (some ⟨g, 0, none⟩) := by simpa using hp
  simp [results, h, hp', asAddr, run_loadVar_row w g t ty cs fr d hg hu hd hi]
theorem RkS.startRow {W x : World} {b N : Nat} {s : ByteArray} {q : Int × Int} {t : TypeId} {cN : List Value} (hx : InAt x b s q) (hn : Blk x N t cN) (hf : Fr (fun c => c = b) W x) (n1 : b ≠ N) (g1 : W.heap.size ≤ N) (zs cs : List Value) :
    RkS W ((x.alloc (.cells zs.toArray t)).setRow x.heap.size cs.toArray) b N x.heap.size s q t cN cs := by
  have hb : Below x.heap.size x ((x.alloc (.cells zs.toArray t)).setRow x.heap.size cs.toArray) := below_setRow ((Below.refl _ x).alloc (Nat.le_refl _) _) (Nat.le_refl _) _
  have h1 := hx.lt
  have h2 := hn.lt
  exact ⟨Blk.kept hx (hb.block b h1), hn.kept (hb.block N h2), (Blk.new x t zs).setRow cs, hf.trans (Fr.under (fun c => c = b) hb) (fun _ _ e => e), n1, by omega, by omega, g1, hf.size⟩
/-- The reader's error is set. -/
theorem RkS.err {W z : World} {b N M : Nat} {s : ByteArray} {a e c : Int} {t : TypeId} {cN cM : List Value} (h : RkS W z b N M s (a, e) t cN cM) : RkS W (z.setCell ⟨b, 2, none⟩ (.int .i64 c)) b N M s (a, c) t cN cM :=
  ⟨Blk.set h.i 2 (.int .i64 c), h.kn.other ⟨b, 2, none⟩ h.n1 _, h.km.other ⟨b, 2, none⟩ h.n2 _, h.fr.setCell ⟨b, 2, none⟩ _ (.inl rfl), h.n1, h.n2, h.n3, h.g1, h.g2⟩
theorem RkS.drew {W z : World} {b N M : Nat} {s : ByteArray} {q : Int × Int} {t : TypeId} {cN cM : List Value} (h : RkS W z b N M s q t cN cM) : RkS W z.drew b N M s q t cN cM := h.turn ((Fr.refl (fun _ => False) z).drew) (fun _ e => e.elim)
theorem sets_zero : setsL zeroO.l 0 zOl = zeroO.l := by kernel_rfl
theorem zero_one : (zOa : Array Value).all (·.oneCell') = true := zeroO.oneC
/-- What is read when an order's kind has been read. -/
def DecS (W z : World) (b N M : Nat) (s : ByteArray) : Prop := ∃ (a e : Int) (o : GOd) (al : List (Int × Int)) (oa : Option Addr) (ca : Nat), RkS W z b N M s (a, e) 30 zeroO.l (o.withA oa ca).l ∧ (e ≠ 0 → NoOrd (ordR s.data.toList)) ∧ (e = 0 → ordR s.data.toList = finO s.data.toList o al a ∧ a ≤ (s.data.toList.length : Int) ∧ RdA z oa al ∧ al.length = o.an ∧ o.an ≤ 100 ∧ o.txt.size ≤ maxLen ∧ ∀ x, oa = some x → W.heap.size ≤ x.block ∧ x.block ≠ N)
section
variable {l : List UInt8} {n0 n1 n2 a4 e4 : Int}
theorem rk_k1 (h4 : rkL l 4 (0, 0) = ([n0, n1, n2, 1], a4, e4)) {p0 p1 a e : Int} (h : rkL l 2 (a4, e4) = ([p0, p1], a, e)) : (e ≠ 0 → NoOrd (ordR l)) ∧ (e = 0 → ordR l = finO l (⟨n0, n1, n2, 1, p0, p1, 0, 0, 0, 0, 0, 0, none, 0, 0, ⟨0, 0, 0, 0, 0, 0, 0, 0⟩, 0, 0, 0, 0, ⟨#[]⟩⟩ : GOd) [] a) := by
  obtain ⟨h1, h2⟩ := rk_ord h4 (by decide) rfl h
  refine ⟨h1, fun h0 => ?_⟩
  rw [h2 h0, ordC_x (by show ((o4 [n0, n1, n2, 1]).withN [p0, p1]).k ≠ 3; rw [withN_k]; show (1 : Int) ≠ 3; decide) (by show ((o4 [n0, n1, n2, 1]).withN [p0, p1]).k ≠ 5; rw [withN_k]; show (1 : Int) ≠ 5; decide)]
  rfl
theorem rk_k2 (h4 : rkL l 4 (0, 0) = ([n0, n1, n2, 2], a4, e4)) {p0 a e : Int} (h : rkL l 1 (a4, e4) = ([p0], a, e)) : (e ≠ 0 → NoOrd (ordR l)) ∧ (e = 0 → ordR l = finO l (⟨n0, n1, n2, 2, p0, 0, 0, 0, 0, 0, 0, 0, none, 0, 0, ⟨0, 0, 0, 0, 0, 0, 0, 0⟩, 0, 0, 0, 0, ⟨#[]⟩⟩ : GOd) [] a) := by
  obtain ⟨h1, h2⟩ := rk_ord h4 (by decide) rfl h
  refine ⟨h1, fun h0 => ?_⟩
  rw [h2 h0, ordC_x (by show ((o4 [n0, n1, n2, 2]).withN [p0]).k ≠ 3; rw [withN_k]; show (2 : Int) ≠ 3; decide) (by show ((o4 [n0, n1, n2, 2]).withN [p0]).k ≠ 5; rw [withN_k]; show (2 : Int) ≠ 5; decide)]
  rfl
theorem rk_k4 (h4 : rkL l 4 (0, 0) = ([n0, n1, n2, 4], a4, e4)) {p0 p1 p2 p3 p4 p5 p6 p7 a e : Int} (h : rkL l 8 (a4, e4) = ([p0, p1, p2, p3, p4, p5, p6, p7], a, e)) : (e ≠ 0 → NoOrd (ordR l)) ∧ (e = 0 → ordR l = finO l (⟨n0, n1, n2, 4, 0, 0, 0, 0, 0, 0, 0, 0, none, 0, 0, ⟨p0, p1, p2, p3, p4, p5, p6, p7⟩, 0, 0, 0, 0, ⟨#[]⟩⟩ : GOd) [] a) := by
  obtain ⟨h1, h2⟩ := rk_ord h4 (by decide) rfl h
  refine ⟨h1, fun h0 => ?_⟩
  rw [h2 h0, ordC_x (by show ((o4 [n0, n1, n2, 4]).withN [p0, p1, p2, p3, p4, p5, p6, p7]).k ≠ 3; rw [withN_k]; show (4 : Int) ≠ 3; decide) (by show ((o4 [n0, n1, n2, 4]).withN [p0, p1, p2, p3, p4, p5, p6, p7]).k ≠ 5; rw [withN_k]; show (4 : Int) ≠ 5; decide)]
  rfl
theorem rk_k5 (h4 : rkL l 4 (0, 0) = ([n0, n1, n2, 5], a4, e4)) {p0 p1 p2 p3 a e : Int} (h : rkL l 4 (a4, e4) = ([p0, p1, p2, p3], a, e)) {t : List UInt8} {a' e' : Int} (ht : rkT l (a, e) = (t, a', e')) : (e' ≠ 0 → NoOrd (ordR l)) ∧ (e' = 0 → ordR l = finO l (⟨n0, n1, n2, 5, 0, 0, 0, 0, 0, 0, 0, 0, none, 0, 0, ⟨0, 0, 0, 0, 0, 0, 0, 0⟩, p0, p1, p2, p3, ⟨t.toArray⟩⟩ : GOd) [] a') := by
  obtain ⟨h1, h2⟩ := rk_text h4 rfl h ht
  refine ⟨h1, fun h0 => ?_⟩
  rw [h2 h0]
  rfl
end
set_option maxHeartbeats 16000000 in
set_option maxRecDepth 100000 in
theorem ref15Dec (s : ByteArray) (W : World) (hs : s.size ≤ maxLen) : Calls Tryz.prog 46 #[.string s] W (Dec15 W s.data.toList) := by
  obtain ⟨n0, a1, e1, h0⟩ : ∃ n x y, rkN s.data.toList (0, 0) = (n, x, y) := ⟨_, _, _, rfl⟩
  obtain ⟨n1, a2, e2, h1⟩ : ∃ n x y, rkN s.data.toList (a1, e1) = (n, x, y) := ⟨_, _, _, rfl⟩
  obtain ⟨n2, a3, e3, h2⟩ : ∃ n x y, rkN s.data.toList (a2, e2) = (n, x, y) := ⟨_, _, _, rfl⟩
  obtain ⟨n3, a4, e4, h3⟩ : ∃ n x y, rkN s.data.toList (a3, e3) = (n, x, y) := ⟨_, _, _, rfl⟩
  have H4 : Hid (rkL s.data.toList 4 (0, 0) = ([n0, n1, n2, n3], a4, e4)) := (by simp only [rkL, h0, h1, h2, h3] : rkL s.data.toList 4 (0, 0) = ([n0, n1, n2, n3], a4, e4))
  have hle4 : a4 ≤ (s.data.toList.length : Int) := by
    have := rkL_le s.data.toList 4 (0, 0) (by show (0 : Int) ≤ _; omega)
    rw [H4.out] at this
    exact this
  have HLE := Lib.hid hle4
  have HS := Lib.hid hs
  obtain ⟨N, hN⟩ : ∃ N, W.heap.size = N := ⟨_, rfl⟩
  obtain ⟨w0, hw0⟩ : ∃ w0, W.alloc (.cells zOa 30) = w0 := ⟨_, rfl⟩
  obtain ⟨b, hb⟩ : ∃ b, w0.heap.size = b := ⟨_, rfl⟩
  obtain ⟨wi, hwi⟩ : ∃ wi, w0.alloc (.cells #[.string s, .int .i64 0, .int .i64 0] 103) = wi := ⟨_, rfl⟩
  have hb0 : Below N W w0 := by rw [← hw0, ← hN]; exact (Below.refl _ W).alloc (Nat.le_refl _) _
  have hk0 : Blk w0 N 30 zeroO.l := by rw [← hw0, ← hN]; exact Blk.new W _ zOl
  have hNb : N < b := by rw [← hb]; exact hk0.lt
  have hb1 : Below b w0 wi := by rw [← hwi, ← hb]; exact (Below.refl _ w0).alloc (Nat.le_refl _) _
  have HI0 : Hid (InAt wi b s (0, 0)) := (by rw [← hwi, ← hb]; exact Blk.new w0 _ _ : InAt wi b s (0, 0))
  have HK0 : Hid (Blk wi N 30 zeroO.l) := hk0.kept (hb1.block N hNb)
  have HF0 : Hid (Fr (fun c => c = b) W wi) := Fr.under _ (by rw [hN]; exact hb0.trans (hb1.mono (Nat.le_of_lt hNb)))
  have HG : Hid (b ≠ N ∧ W.heap.size ≤ N ∧ W.heap.size ≤ b) := ⟨by omega, by omega, by omega⟩
  have HSZ := Lib.hid (show (Tryz.prog.info? 30).map (·.size) = some 26 from by kernel_rfl)
  have HH0 := Lib.hid h0
  have HH1 := Lib.hid h1
  have HH2 := Lib.hid h2
  have HH3 := Lib.hid h3
  clear hle4 hs hb0 hk0 hNb hb1 h0 h1 h2 h3
  go_enter Tryz.func46, Tryz.ntmps46
  go_wp2_with fail
  clear hN hw0 hb hwi
  refine (rkNumber s b 0 0 wi HS.out HI0.out).mono ?_
  rw [HH0.out]
  rintro en x1 ⟨rfl, hk, hf⟩
  obtain ⟨M, hM⟩ : ∃ M, x1.heap.size = M := ⟨_, rfl⟩
  obtain ⟨x2, hx2⟩ : ∃ x2, x1.alloc (.cells zOa 30) = x2 := ⟨_, rfl⟩
  obtain ⟨y0, hy0⟩ : ∃ y0, x2.setRow M (⟨n0, 0, 0, 0, 0, 0, 0, 0, 0, 0, 0, 0, none, 0, 0, ⟨0, 0, 0, 0, 0, 0, 0, 0⟩, 0, 0, 0, 0, ⟨#[]⟩⟩ : GOd).l.toArray = y0 := ⟨_, rfl⟩
  have HR := Lib.hid (RkS.startRow (cs := (⟨n0, 0, 0, 0, 0, 0, 0, 0, 0, 0, 0, 0, none, 0, 0, ⟨0, 0, 0, 0, 0, 0, 0, 0⟩, 0, 0, 0, 0, ⟨#[]⟩⟩ : GOd).l) hk (HK0.out.kept (hf.block N HK0.out.lt (fun e => HG.out.1 e.symm))) (HF0.out.trans hf (fun _ _ e => e)) HG.out.1 HG.out.2.1 zOl)
  have HK2 : Hid (Blk x2 M 30 zOl) := (by rw [← hx2, ← hM]; exact Blk.new x1 _ _ : Blk x2 M 30 zOl)
  rw [hx2, hM, hy0] at HR
  have HY0 := Lib.hid hy0
  have HOC : Hid ((⟨n0, 0, 0, 0, 0, 0, 0, 0, 0, 0, 0, 0, none, 0, 0, ⟨0, 0, 0, 0, 0, 0, 0, 0⟩, 0, 0, 0, 0, ⟨#[]⟩⟩ : GOd).l.toArray.all (·.oneCell') = true) := (⟨n0, 0, 0, 0, 0, 0, 0, 0, 0, 0, 0, 0, none, 0, 0, ⟨0, 0, 0, 0, 0, 0, 0, 0⟩, 0, 0, 0, 0, ⟨#[]⟩⟩ : GOd).oneC
  have HOZ : Hid (zOa.size = (⟨n0, 0, 0, 0, 0, 0, 0, 0, 0, 0, 0, 0, none, 0, 0, ⟨0, 0, 0, 0, 0, 0, 0, 0⟩, 0, 0, 0, 0, ⟨#[]⟩⟩ : GOd).l.toArray.size) := rfl
  clear hk hf hy0 HK0 HI0 HF0
  go_upto_region 3 with (refine wpList_store_row rfl 30 (.tmp 5) (.tmp 12) rfl M (⟨n0, 0, 0, 0, 0, 0, 0, 0, 0, 0, 0, 0, none, 0, 0, ⟨0, 0, 0, 0, 0, 0, 0, 0⟩, 0, 0, 0, 0, ⟨#[]⟩⟩ : GOd).l.toArray rfl rfl 30 _ HK2.out HSZ.out HOZ.out HOC.out ?_; rw [HY0.out])
  clear HK2 HY0 hx2 hM HOC HOZ
  go_wp2_with fail
  refine (rkNumber s b a1 e1 y0 HS.out HR.out.i).mono ?_
  rw [HH1.out]
  rintro en x1 ⟨rfl, hk, hf⟩
  have HR := Lib.hid (HR.out.num hk hf)
  have ci : x1.cell? ⟨M, 1, none⟩ = some (.int .i64 0) := HR.out.km.cell 1
  have fi := HR.out.km.frozen 1
  have HR : Hid (RkS W (x1.setCell ⟨M, 1, none⟩ (.int .i64 n1)) b N M s (a2, e2) 30 zeroO.l (⟨n0, n1, 0, 0, 0, 0, 0, 0, 0, 0, 0, 0, none, 0, 0, ⟨0, 0, 0, 0, 0, 0, 0, 0⟩, 0, 0, 0, 0, ⟨#[]⟩⟩ : GOd).l) := HR.out.put 1 (.int .i64 n1)
  clear hk hf
  go_upto_region 4 with (fail)
  clear ci fi
  generalize World.setCell _ _ _ = y1 at HR ⊢
  go_wp2_with fail
  refine (rkNumber s b a2 e2 y1 HS.out HR.out.i).mono ?_
  rw [HH2.out]
  rintro en x1 ⟨rfl, hk, hf⟩
  have HR := Lib.hid (HR.out.num hk hf)
  have ci : x1.cell? ⟨M, 2, none⟩ = some (.int .i64 0) := HR.out.km.cell 2
  have fi := HR.out.km.frozen 2
  have HR : Hid (RkS W (x1.setCell ⟨M, 2, none⟩ (.int .i64 n2)) b N M s (a3, e3) 30 zeroO.l (⟨n0, n1, n2, 0, 0, 0, 0, 0, 0, 0, 0, 0, none, 0, 0, ⟨0, 0, 0, 0, 0, 0, 0, 0⟩, 0, 0, 0, 0, ⟨#[]⟩⟩ : GOd).l) := HR.out.put 2 (.int .i64 n2)
  clear hk hf
  go_upto_region 5 with (fail)
  clear ci fi
  generalize World.setCell _ _ _ = y2 at HR ⊢
  go_wp2_with fail
  refine (rkNumber s b a3 e3 y2 HS.out HR.out.i).mono ?_
  rw [HH3.out]
  rintro en x1 ⟨rfl, hk, hf⟩
  have HR := Lib.hid (HR.out.num hk hf)
  have ci : x1.cell? ⟨M, 3, none⟩ = some (.int .i64 0) := HR.out.km.cell 3
  have fi := HR.out.km.frozen 3
  have HR : Hid (RkS W (x1.setCell ⟨M, 3, none⟩ (.int .i64 n3)) b N M s (a4, e4) 30 zeroO.l (⟨n0, n1, n2, n3, 0, 0, 0, 0, 0, 0, 0, 0, none, 0, 0, ⟨0, 0, 0, 0, 0, 0, 0, 0⟩, 0, 0, 0, 0, ⟨#[]⟩⟩ : GOd).l) := HR.out.put 3 (.int .i64 n3)
  clear hk hf
  go_upto_region 6 with (fail)
  clear ci fi
  generalize World.setCell _ _ _ = y3 at HR ⊢
  have k3 : y3.cell? ⟨M, 3, none⟩ = some (.int .i64 n3) := HR.out.km.cell 3
  have c2 : y3.cell? ⟨b, 2, none⟩ = some (.int .i64 e4) := HR.out.i.cell 2
  obtain ⟨bb, hbb⟩ : ∃ bb, decide (e4 = 0 ∧ ¬ (1 ≤ n3 ∧ n3 ≤ 5)) = bb := ⟨_, rfl⟩
  have HBB := Lib.hid hbb
  clear hbb
  go_cut [36] from 22 to 35 (fun v wx => v = .bool bb ∧ wx = y3)
  case first =>
    by_cases h0 : e4 = 0
    · rw [h0] at c2
      rcases (show n3 < 1 ∨ (¬ n3 < 1 ∧ n3 > 5) ∨ (¬ n3 < 1 ∧ ¬ n3 > 5) from by omega) with h | ⟨h, h9⟩ | ⟨h, h9⟩
      · have HV : Hid (bb = true) := HBB.out.symm.trans (decide_eq_true ⟨h0, by omega⟩)
        clear h0
        go_wp2_with fail
        go_meet
        exact ⟨by rw [HV.out], rfl⟩
      · have HV : Hid (bb = true) := HBB.out.symm.trans (decide_eq_true ⟨h0, by omega⟩)
        clear h0
        go_wp2_with fail
        go_meet
        exact ⟨by rw [HV.out], rfl⟩
      · have HV : Hid (bb = false) := HBB.out.symm.trans (decide_eq_false (fun h => h.2 (by omega)))
        clear h0
        go_wp2_with fail
        go_meet
        exact ⟨by rw [HV.out], rfl⟩
    · have HV : Hid (bb = false) := HBB.out.symm.trans (decide_eq_false (fun h => h0 h.1))
      have q0 : (e4 == 0) = false := beq_eq_false_iff_ne.2 h0
      clear h0
      go_wp2_with fail
      go_meet
      exact ⟨by rw [HV.out], rfl⟩
  case rest =>
    obtain ⟨rfl, hwx⟩ := hcut
    subst hwx
    cases bb with
    | true =>
      have hno := of_decide_eq_true HBB.out
      have HNO : Hid (NoOrd (ordR s.data.toList)) := rk_other H4.out hno.2
      have q1 : (n3 == 1) = false := beq_eq_false_iff_ne.2 (by omega)
      have q2 : (n3 == 2) = false := beq_eq_false_iff_ne.2 (by omega)
      have q3 : (n3 == 3) = false := beq_eq_false_iff_ne.2 (by omega)
      have q4 : (n3 == 4) = false := beq_eq_false_iff_ne.2 (by omega)
      have q5 : (n3 == 5) = false := beq_eq_false_iff_ne.2 (by omega)
      have f2 := HR.out.i.frozen 2
      have HR := Lib.hid (RkS.err (c := 110) HR.out)
      have d2 : (World.setCell wc ⟨b, 2, none⟩ (.int .i64 110)).cell? ⟨b, 2, none⟩ = some (.int .i64 110) := HR.out.i.cell 2
      have m3 : (World.setCell wc ⟨b, 2, none⟩ (.int .i64 110)).cell? ⟨M, 3, none⟩ = some (.int .i64 n3) := HR.out.km.cell 3
      have HCN : Hid ((110 : Int) ≠ 0) := (by decide : (110 : Int) ≠ 0)
      clear hno k3
      go_upto_region 27 with (fail)
      clear q1 q2 q3 q4 q5 f2 m3 d2 c2
      generalize World.setCell _ _ _ = z0 at HR ⊢
      refine wp_region_held_drew (S := fun W => W.cell? ⟨b, 2, none⟩ = some (.int .i64 (110))) (by kernel_rfl) ?_ (fun hHeld => ?_)
      · exact HR.out.drew.i.cell 2
      have hr9 := HR.out.drew
      generalize World.drew _ = z at hr9 hHeld ⊢
      have HR := Lib.hid hr9
      clear hr9
      refine tk 0 (some 109) ?_
      refine tk 1 (some 110) ?_
      refine tk 2 (some 111) ?_
      refine tk 3 (some 112) ?_
      refine tk 4 (some 113) ?_
      refine rd1 5 none (fun K hK => ?_)
      refine step_storeRow (by rfl) 30 (.tmp 2) (.tmp 109) (by rfl) N 30 zeroO.l zOa (by rfl) (by rfl) HR.out.kn (Nat.le_refl _) HSZ.out zero_one ?_
      have hkz := Blk.sets zOl 0 HR.out.kn
      rw [sets_zero] at hkz
      have HKZ := Lib.hid hkz
      have HE2 : Hid (World.cell? (z.setCells N 0 zOl) ⟨b, 2, none⟩ = some (.int .i64 (110))) := (Blk.kept HR.out.i (heap_setCells N b HG.out.1 zOl 0 _)).cell 2
      have HFZ : Hid (Fr (fun c => c = b) W (z.setCells N 0 zOl)) := Fr.setCells N zOl 0 HR.out.fr (.inr HG.out.2.1)
      clear hkz
      generalize World.setCells _ _ _ _ = zz at HKZ HE2 HFZ ⊢
      refine hK.out _ _ ?_ (fun hHeld2 => ?_)
      · exact HE2.out
      clear hK K hHeld
      rename _ => hHeld
      try simp only [Act.put, List.setIfInBounds_toArray, List.set_cons_zero, List.set_cons_succ]
      refine tk 6 (some 3) ?_
      refine wpAnyH_done (by kernel_rfl) ?_ _
      clear hHeld
      go_wp2_with fail
      refine bodyPost_ret (results_row_tmp Tryz.results46 _ _ N 30 zeroO.l.toArray (0, 0) _ rfl HKZ.out Tryz.underlying30 rfl HSZ.out) rfl ?_
      exact ⟨HFZ.out.below _ (Nat.le_refl _) (fun c e => by have := HG.out.2.2; omega), .inr ⟨noOrd_dec HNO.out, 110, HCN.out, rfl⟩⟩
    | false =>
      go_upto_block 0 with (fail)
      go_cut [] from 42 to 86 (fun wx => Hid (DecS W wx b N M s))
      case first =>
        rcases (show n3 = 1 ∨ n3 = 2 ∨ n3 = 3 ∨ n3 = 4 ∨ n3 = 5 ∨ ¬ (1 ≤ n3 ∧ n3 ≤ 5) from by omega) with h | h | h | h | h | h
        · obtain rfl : n3 = 1 := h
          obtain ⟨p0, b1, f1, g0⟩ : ∃ n x y, rkN s.data.toList (a4, e4) = (n, x, y) := ⟨_, _, _, rfl⟩
          obtain ⟨p1, b2, f2, g1⟩ : ∃ n x y, rkN s.data.toList (b1, f1) = (n, x, y) := ⟨_, _, _, rfl⟩
          have hm : rkL s.data.toList 2 (a4, e4) = ([p0, p1], b2, f2) := by simp only [rkL, g0, g1]
          have hl : b2 ≤ (s.data.toList.length : Int) := by
            have := rkL_le s.data.toList 2 (a4, e4) HLE.out
            rw [hm] at this
            exact this
          have HPL := Lib.hid (rk_k1 H4.out hm)
          have HL2 := Lib.hid hl
          have HG0 := Lib.hid g0
          have HG1 := Lib.hid g1
          clear hm hl k3 c2 g0 g1
          go_wp2_with fail
          refine (rkNumber s b a4 e4 wc HS.out HR.out.i).mono ?_
          rw [HG0.out]
          rintro en x1 ⟨rfl, hk, hf⟩
          have HR := Lib.hid (HR.out.num hk hf)
          have ci : x1.cell? ⟨M, 4, none⟩ = some (.int .i64 0) := HR.out.km.cell 4
          have fi := HR.out.km.frozen 4
          have HR : Hid (RkS W (x1.setCell ⟨M, 4, none⟩ (.int .i64 p0)) b N M s (b1, f1) 30 zeroO.l (⟨n0, n1, n2, 1, p0, 0, 0, 0, 0, 0, 0, 0, none, 0, 0, ⟨0, 0, 0, 0, 0, 0, 0, 0⟩, 0, 0, 0, 0, ⟨#[]⟩⟩ : GOd).l) := HR.out.put 4 (.int .i64 p0)
          clear hk hf
          go_upto_region 11 with (fail)
          clear ci fi
          generalize World.setCell _ _ _ = v0 at HR ⊢
          go_wp2_with fail
          refine (rkNumber s b b1 f1 v0 HS.out HR.out.i).mono ?_
          rw [HG1.out]
          rintro en x1 ⟨rfl, hk, hf⟩
          have HR := Lib.hid (HR.out.num hk hf)
          have ci : x1.cell? ⟨M, 5, none⟩ = some (.int .i64 0) := HR.out.km.cell 5
          have fi := HR.out.km.frozen 5
          have HR : Hid (RkS W (x1.setCell ⟨M, 5, none⟩ (.int .i64 p1)) b N M s (b2, f2) 30 zeroO.l (⟨n0, n1, n2, 1, p0, p1, 0, 0, 0, 0, 0, 0, none, 0, 0, ⟨0, 0, 0, 0, 0, 0, 0, 0⟩, 0, 0, 0, 0, ⟨#[]⟩⟩ : GOd).l) := HR.out.put 5 (.int .i64 p1)
          clear hk hf
          go_wp2_with fail
          go_meet
          exact ⟨b2, f2, (⟨n0, n1, n2, 1, p0, p1, 0, 0, 0, 0, 0, 0, none, 0, 0, ⟨0, 0, 0, 0, 0, 0, 0, 0⟩, 0, 0, 0, 0, ⟨#[]⟩⟩ : GOd), [], none, 0, HR.out, HPL.out.1, fun h => ⟨HPL.out.2 h, HL2.out, .inl rfl, rfl, Nat.zero_le _, Nat.zero_le _, fun x e => by cases e⟩⟩
        · obtain rfl : n3 = 2 := h
          obtain ⟨p0, b1, f1, g0⟩ : ∃ n x y, rkN s.data.toList (a4, e4) = (n, x, y) := ⟨_, _, _, rfl⟩
          have hm : rkL s.data.toList 1 (a4, e4) = ([p0], b1, f1) := by simp only [rkL, g0]
          have hl : b1 ≤ (s.data.toList.length : Int) := by
            have := rkL_le s.data.toList 1 (a4, e4) HLE.out
            rw [hm] at this
            exact this
          have HPL := Lib.hid (rk_k2 H4.out hm)
          have HL2 := Lib.hid hl
          have HG0 := Lib.hid g0
          clear hm hl k3 c2 g0
          go_wp2_with fail
          refine (rkNumber s b a4 e4 wc HS.out HR.out.i).mono ?_
          rw [HG0.out]
          rintro en x1 ⟨rfl, hk, hf⟩
          have HR := Lib.hid (HR.out.num hk hf)
          have ci : x1.cell? ⟨M, 4, none⟩ = some (.int .i64 0) := HR.out.km.cell 4
          have fi := HR.out.km.frozen 4
          have HR : Hid (RkS W (x1.setCell ⟨M, 4, none⟩ (.int .i64 p0)) b N M s (b1, f1) 30 zeroO.l (⟨n0, n1, n2, 2, p0, 0, 0, 0, 0, 0, 0, 0, none, 0, 0, ⟨0, 0, 0, 0, 0, 0, 0, 0⟩, 0, 0, 0, 0, ⟨#[]⟩⟩ : GOd).l) := HR.out.put 4 (.int .i64 p0)
          clear hk hf
          go_wp2_with fail
          go_meet
          exact ⟨b1, f1, (⟨n0, n1, n2, 2, p0, 0, 0, 0, 0, 0, 0, 0, none, 0, 0, ⟨0, 0, 0, 0, 0, 0, 0, 0⟩, 0, 0, 0, 0, ⟨#[]⟩⟩ : GOd), [], none, 0, HR.out, HPL.out.1, fun h => ⟨HPL.out.2 h, HL2.out, .inl rfl, rfl, Nat.zero_le _, Nat.zero_le _, fun x e => by cases e⟩⟩
        · obtain rfl : n3 = 3 := h
          clear k3 c2
          go_wp2_with fail
          refine (rkEntry s b a4 e4 wc HS.out HR.out.i).mono ?_
          rintro en x1 ⟨vs, ⟨a6, e6⟩, i, ws, ⟨aq, eq⟩, oa, cap, h6, hw, hi, hle, hi7, rfl, hrd, hge, hk, hf⟩
          have HPL := Lib.hid (rk_alts H4.out rfl h6 hw hi hle)
          have hl6 : a6 ≤ (s.data.toList.length : Int) := by
            have := rkL_le s.data.toList 6 (a4, e4) HLE.out
            rw [h6] at this
            exact this
          have HL2 : Hid (aq ≤ (s.data.toList.length : Int)) := (by
            have := rkL_le s.data.toList (2 * i) _ (rkC_le s.data.toList (a6, e6) hl6)
            rw [hw] at this
            exact this : aq ≤ (s.data.toList.length : Int))
          have HWL : Hid ((pairsL ws).length = i) := pairsL_len i ws (by have := rkL_len s.data.toList (2 * i) (rkC s.data.toList (a6, e6)).2; rw [hw] at this; exact this)
          have hml := HR.out.km.lt
          have hsz0 := HR.out.fr.size
          have hnl := HR.out.kn.lt
          have HGE : Hid (∀ x, oa = some x → W.heap.size ≤ x.block ∧ x.block ≠ N) := fun x e => ⟨Nat.le_trans hsz0 (hge x e), by have := hge x e; omega⟩
          have HR := Lib.hid (HR.out.num hk hf)
          have HI7 : Hid (i ≤ 7) := hi7
          have hfr : Fr (fun c => c = M) x1 (World.setCell (World.setCell (World.setCell (World.setCell (World.setCell (World.setCell (World.setCell x1 ⟨M, 6, none⟩ (.int .i64 (vs.getD 0 0))) ⟨M, 7, none⟩ (.int .i64 (vs.getD 1 0))) ⟨M, 8, none⟩ (.int .i64 (vs.getD 2 0))) ⟨M, 9, none⟩ (.int .i64 (vs.getD 3 0))) ⟨M, 10, none⟩ (.int .i64 (vs.getD 4 0))) ⟨M, 11, none⟩ (.int .i64 (vs.getD 5 0))) ⟨M, 12, none⟩ (.slice oa i cap)) := Fr.setCell (Fr.setCell (Fr.setCell (Fr.setCell (Fr.setCell (Fr.setCell (Fr.setCell (Fr.refl (fun c => c = M) x1) ⟨M, 6, none⟩ (.int .i64 (vs.getD 0 0)) (.inl rfl)) ⟨M, 7, none⟩ (.int .i64 (vs.getD 1 0)) (.inl rfl)) ⟨M, 8, none⟩ (.int .i64 (vs.getD 2 0)) (.inl rfl)) ⟨M, 9, none⟩ (.int .i64 (vs.getD 3 0)) (.inl rfl)) ⟨M, 10, none⟩ (.int .i64 (vs.getD 4 0)) (.inl rfl)) ⟨M, 11, none⟩ (.int .i64 (vs.getD 5 0)) (.inl rfl)) ⟨M, 12, none⟩ (.slice oa i cap) (.inl rfl)
          have HRD : Hid (RdA (World.setCell (World.setCell (World.setCell (World.setCell (World.setCell (World.setCell (World.setCell x1 ⟨M, 6, none⟩ (.int .i64 (vs.getD 0 0))) ⟨M, 7, none⟩ (.int .i64 (vs.getD 1 0))) ⟨M, 8, none⟩ (.int .i64 (vs.getD 2 0))) ⟨M, 9, none⟩ (.int .i64 (vs.getD 3 0))) ⟨M, 10, none⟩ (.int .i64 (vs.getD 4 0))) ⟨M, 11, none⟩ (.int .i64 (vs.getD 5 0))) ⟨M, 12, none⟩ (.slice oa i cap)) oa (pairsL ws)) := (by
            by_cases h9 : oa = none
            · rcases hrd with e | ⟨b9, o9, e, _⟩
              · exact .inl e
              · rw [h9] at e; cases e
            · exact hrd.keptB hfr.size (fun b9 o9 e hlt => hfr.block b9 hlt (by have := hge _ e; simp only at this; omega)) : RdA (World.setCell (World.setCell (World.setCell (World.setCell (World.setCell (World.setCell (World.setCell x1 ⟨M, 6, none⟩ (.int .i64 (vs.getD 0 0))) ⟨M, 7, none⟩ (.int .i64 (vs.getD 1 0))) ⟨M, 8, none⟩ (.int .i64 (vs.getD 2 0))) ⟨M, 9, none⟩ (.int .i64 (vs.getD 3 0))) ⟨M, 10, none⟩ (.int .i64 (vs.getD 4 0))) ⟨M, 11, none⟩ (.int .i64 (vs.getD 5 0))) ⟨M, 12, none⟩ (.slice oa i cap)) oa (pairsL ws))
          have m0 : x1.cell? ⟨M, 6, none⟩ = some (.int .i64 0) := HR.out.km.cell 6
          have mf0 := HR.out.km.frozen 6
          have m1 : x1.cell? ⟨M, 7, none⟩ = some (.int .i64 0) := HR.out.km.cell 7
          have mf1 := HR.out.km.frozen 7
          have m2 : x1.cell? ⟨M, 8, none⟩ = some (.int .i64 0) := HR.out.km.cell 8
          have mf2 := HR.out.km.frozen 8
          have m3 : x1.cell? ⟨M, 9, none⟩ = some (.int .i64 0) := HR.out.km.cell 9
          have mf3 := HR.out.km.frozen 9
          have m4 : x1.cell? ⟨M, 10, none⟩ = some (.int .i64 0) := HR.out.km.cell 10
          have mf4 := HR.out.km.frozen 10
          have m5 : x1.cell? ⟨M, 11, none⟩ = some (.int .i64 0) := HR.out.km.cell 11
          have mf5 := HR.out.km.frozen 11
          have m6 : x1.cell? ⟨M, 12, none⟩ = some (.slice none 0 0) := HR.out.km.cell 12
          have mf6 := HR.out.km.frozen 12
          have HR : Hid (RkS W (World.setCell (World.setCell (World.setCell (World.setCell (World.setCell (World.setCell (World.setCell x1 ⟨M, 6, none⟩ (.int .i64 (vs.getD 0 0))) ⟨M, 7, none⟩ (.int .i64 (vs.getD 1 0))) ⟨M, 8, none⟩ (.int .i64 (vs.getD 2 0))) ⟨M, 9, none⟩ (.int .i64 (vs.getD 3 0))) ⟨M, 10, none⟩ (.int .i64 (vs.getD 4 0))) ⟨M, 11, none⟩ (.int .i64 (vs.getD 5 0))) ⟨M, 12, none⟩ (.slice oa i cap)) b N M s (aq, eq) 30 zeroO.l (GOd.withA (⟨n0, n1, n2, 3, 0, 0, vs.getD 0 0, vs.getD 1 0, vs.getD 2 0, vs.getD 3 0, vs.getD 4 0, vs.getD 5 0, none, i, 0, ⟨0, 0, 0, 0, 0, 0, 0, 0⟩, 0, 0, 0, 0, ⟨#[]⟩⟩ : GOd) oa cap).l) := RkS.put (RkS.put (RkS.put (RkS.put (RkS.put (RkS.put (RkS.put (HR.out) 6 (.int .i64 (vs.getD 0 0))) 7 (.int .i64 (vs.getD 1 0))) 8 (.int .i64 (vs.getD 2 0))) 9 (.int .i64 (vs.getD 3 0))) 10 (.int .i64 (vs.getD 4 0))) 11 (.int .i64 (vs.getD 5 0))) 12 (.slice oa i cap)
          clear hk hf h6 hw hi hle hi7 hrd hge hl6 hml hsz0 hfr hnl
          go_wp2_with fail
          go_meet
          exact ⟨aq, eq, (⟨n0, n1, n2, 3, 0, 0, vs.getD 0 0, vs.getD 1 0, vs.getD 2 0, vs.getD 3 0, vs.getD 4 0, vs.getD 5 0, none, i, 0, ⟨0, 0, 0, 0, 0, 0, 0, 0⟩, 0, 0, 0, 0, ⟨#[]⟩⟩ : GOd), pairsL ws, oa, cap, HR.out, HPL.out.1, fun h => ⟨HPL.out.2 h, HL2.out, HRD.out, HWL.out, by show i ≤ 100; have := HI7.out; omega, Nat.zero_le _, HGE.out⟩⟩
        · obtain rfl : n3 = 4 := h
          obtain ⟨p0, b1, f1, g0⟩ : ∃ n x y, rkN s.data.toList (a4, e4) = (n, x, y) := ⟨_, _, _, rfl⟩
          obtain ⟨p1, b2, f2, g1⟩ : ∃ n x y, rkN s.data.toList (b1, f1) = (n, x, y) := ⟨_, _, _, rfl⟩
          obtain ⟨p2, b3, f3, g2⟩ : ∃ n x y, rkN s.data.toList (b2, f2) = (n, x, y) := ⟨_, _, _, rfl⟩
          obtain ⟨p3, b4, f4, g3⟩ : ∃ n x y, rkN s.data.toList (b3, f3) = (n, x, y) := ⟨_, _, _, rfl⟩
          obtain ⟨p4, b5, f5, g4⟩ : ∃ n x y, rkN s.data.toList (b4, f4) = (n, x, y) := ⟨_, _, _, rfl⟩
          obtain ⟨p5, b6, f6, g5⟩ : ∃ n x y, rkN s.data.toList (b5, f5) = (n, x, y) := ⟨_, _, _, rfl⟩
          obtain ⟨p6, b7, f7, g6⟩ : ∃ n x y, rkN s.data.toList (b6, f6) = (n, x, y) := ⟨_, _, _, rfl⟩
          obtain ⟨p7, b8, f8, g7⟩ : ∃ n x y, rkN s.data.toList (b7, f7) = (n, x, y) := ⟨_, _, _, rfl⟩
          have hm : rkL s.data.toList 8 (a4, e4) = ([p0, p1, p2, p3, p4, p5, p6, p7], b8, f8) := by simp only [rkL, g0, g1, g2, g3, g4, g5, g6, g7]
          have hl : b8 ≤ (s.data.toList.length : Int) := by
            have := rkL_le s.data.toList 8 (a4, e4) HLE.out
            rw [hm] at this
            exact this
          have HPL := Lib.hid (rk_k4 H4.out hm)
          have HL2 := Lib.hid hl
          have HM := Lib.hid hm
          clear hm hl k3 c2 g0 g1 g2 g3 g4 g5 g6 g7
          go_wp2_with fail
          refine (rkClause s b a4 e4 wc HS.out HR.out.i).mono ?_
          rintro en x1 ⟨vs, q, hv, rfl, hk, hf⟩
          rw [HM.out] at hv
          obtain ⟨rfl, rfl⟩ := Prod.mk.inj hv
          have HR := Lib.hid (HR.out.num hk hf)
          have m0 : x1.cell? ⟨M, 13, none⟩ = some (.int .i64 0) := HR.out.km.cell 13
          have mf0 := HR.out.km.frozen 13
          have m1 : x1.cell? ⟨M, 14, none⟩ = some (.int .i64 0) := HR.out.km.cell 14
          have mf1 := HR.out.km.frozen 14
          have m2 : x1.cell? ⟨M, 15, none⟩ = some (.int .i64 0) := HR.out.km.cell 15
          have mf2 := HR.out.km.frozen 15
          have m3 : x1.cell? ⟨M, 16, none⟩ = some (.int .i64 0) := HR.out.km.cell 16
          have mf3 := HR.out.km.frozen 16
          have m4 : x1.cell? ⟨M, 17, none⟩ = some (.int .i64 0) := HR.out.km.cell 17
          have mf4 := HR.out.km.frozen 17
          have m5 : x1.cell? ⟨M, 18, none⟩ = some (.int .i64 0) := HR.out.km.cell 18
          have mf5 := HR.out.km.frozen 18
          have m6 : x1.cell? ⟨M, 19, none⟩ = some (.int .i64 0) := HR.out.km.cell 19
          have mf6 := HR.out.km.frozen 19
          have m7 : x1.cell? ⟨M, 20, none⟩ = some (.int .i64 0) := HR.out.km.cell 20
          have mf7 := HR.out.km.frozen 20
          have HR : Hid (RkS W (World.setCell (World.setCell (World.setCell (World.setCell (World.setCell (World.setCell (World.setCell (World.setCell x1 ⟨M, 13, none⟩ (.int .i64 p0)) ⟨M, 14, none⟩ (.int .i64 p1)) ⟨M, 15, none⟩ (.int .i64 p2)) ⟨M, 16, none⟩ (.int .i64 p3)) ⟨M, 17, none⟩ (.int .i64 p4)) ⟨M, 18, none⟩ (.int .i64 p5)) ⟨M, 19, none⟩ (.int .i64 p6)) ⟨M, 20, none⟩ (.int .i64 p7)) b N M s (b8, f8) 30 zeroO.l (⟨n0, n1, n2, 4, 0, 0, 0, 0, 0, 0, 0, 0, none, 0, 0, ⟨p0, p1, p2, p3, p4, p5, p6, p7⟩, 0, 0, 0, 0, ⟨#[]⟩⟩ : GOd).l) := RkS.put (RkS.put (RkS.put (RkS.put (RkS.put (RkS.put (RkS.put (RkS.put (HR.out) 13 (.int .i64 p0)) 14 (.int .i64 p1)) 15 (.int .i64 p2)) 16 (.int .i64 p3)) 17 (.int .i64 p4)) 18 (.int .i64 p5)) 19 (.int .i64 p6)) 20 (.int .i64 p7)
          clear hk hf hv
          simp only [clauseOf, ClD.l, List.getD_cons_zero, List.getD_cons_succ]
          go_wp2_with fail
          go_meet
          exact ⟨b8, f8, (⟨n0, n1, n2, 4, 0, 0, 0, 0, 0, 0, 0, 0, none, 0, 0, ⟨p0, p1, p2, p3, p4, p5, p6, p7⟩, 0, 0, 0, 0, ⟨#[]⟩⟩ : GOd), [], none, 0, HR.out, HPL.out.1, fun h => ⟨HPL.out.2 h, HL2.out, .inl rfl, rfl, Nat.zero_le _, Nat.zero_le _, fun x e => by cases e⟩⟩
        · obtain rfl : n3 = 5 := h
          obtain ⟨p0, b1, f1, g0⟩ : ∃ n x y, rkN s.data.toList (a4, e4) = (n, x, y) := ⟨_, _, _, rfl⟩
          obtain ⟨p1, b2, f2, g1⟩ : ∃ n x y, rkN s.data.toList (b1, f1) = (n, x, y) := ⟨_, _, _, rfl⟩
          obtain ⟨p2, b3, f3, g2⟩ : ∃ n x y, rkN s.data.toList (b2, f2) = (n, x, y) := ⟨_, _, _, rfl⟩
          obtain ⟨p3, b4, f4, g3⟩ : ∃ n x y, rkN s.data.toList (b3, f3) = (n, x, y) := ⟨_, _, _, rfl⟩
          have hm : rkL s.data.toList 4 (a4, e4) = ([p0, p1, p2, p3], b4, f4) := by simp only [rkL, g0, g1, g2, g3]
          have hl : b4 ≤ (s.data.toList.length : Int) := by
            have := rkL_le s.data.toList 4 (a4, e4) HLE.out
            rw [hm] at this
            exact this
          obtain ⟨t, b5, f5, ht⟩ : ∃ t x y, rkT s.data.toList (b4, f4) = (t, x, y) := ⟨_, _, _, rfl⟩
          have HPL := Lib.hid (rk_k5 H4.out hm ht)
          have HL2 : Hid (b5 ≤ (s.data.toList.length : Int)) := (by have := rkT_le s.data.toList (b4, f4) hl; rw [ht] at this; exact this : b5 ≤ (s.data.toList.length : Int))
          have HTL : Hid ((⟨t.toArray⟩ : ByteArray).size ≤ maxLen) := (by
            have h1 := rkT_len s.data.toList (b4, f4)
            rw [ht] at h1
            have h2 : s.data.toList.length = s.size := Array.length_toList
            have h3 : (⟨t.toArray⟩ : ByteArray).size = t.length := List.size_toArray
            have := HS.out
            simp only at h1
            omega : (⟨t.toArray⟩ : ByteArray).size ≤ maxLen)
          have HTT := Lib.hid ht
          clear ht
          have HG0 := Lib.hid g0
          have HG1 := Lib.hid g1
          have HG2 := Lib.hid g2
          have HG3 := Lib.hid g3
          clear hm hl k3 c2 g0 g1 g2 g3
          go_wp2_with fail
          refine (rkNumber s b a4 e4 wc HS.out HR.out.i).mono ?_
          rw [HG0.out]
          rintro en x1 ⟨rfl, hk, hf⟩
          have HR := Lib.hid (HR.out.num hk hf)
          have ci : x1.cell? ⟨M, 21, none⟩ = some (.int .i64 0) := HR.out.km.cell 21
          have fi := HR.out.km.frozen 21
          have HR : Hid (RkS W (x1.setCell ⟨M, 21, none⟩ (.int .i64 p0)) b N M s (b1, f1) 30 zeroO.l (⟨n0, n1, n2, 5, 0, 0, 0, 0, 0, 0, 0, 0, none, 0, 0, ⟨0, 0, 0, 0, 0, 0, 0, 0⟩, p0, 0, 0, 0, ⟨#[]⟩⟩ : GOd).l) := HR.out.put 21 (.int .i64 p0)
          clear hk hf
          go_upto_region 20 with (fail)
          clear ci fi
          generalize World.setCell _ _ _ = v0 at HR ⊢
          go_wp2_with fail
          refine (rkNumber s b b1 f1 v0 HS.out HR.out.i).mono ?_
          rw [HG1.out]
          rintro en x1 ⟨rfl, hk, hf⟩
          have HR := Lib.hid (HR.out.num hk hf)
          have ci : x1.cell? ⟨M, 22, none⟩ = some (.int .i64 0) := HR.out.km.cell 22
          have fi := HR.out.km.frozen 22
          have HR : Hid (RkS W (x1.setCell ⟨M, 22, none⟩ (.int .i64 p1)) b N M s (b2, f2) 30 zeroO.l (⟨n0, n1, n2, 5, 0, 0, 0, 0, 0, 0, 0, 0, none, 0, 0, ⟨0, 0, 0, 0, 0, 0, 0, 0⟩, p0, p1, 0, 0, ⟨#[]⟩⟩ : GOd).l) := HR.out.put 22 (.int .i64 p1)
          clear hk hf
          go_upto_region 21 with (fail)
          clear ci fi
          generalize World.setCell _ _ _ = v1 at HR ⊢
          go_wp2_with fail
          refine (rkNumber s b b2 f2 v1 HS.out HR.out.i).mono ?_
          rw [HG2.out]
          rintro en x1 ⟨rfl, hk, hf⟩
          have HR := Lib.hid (HR.out.num hk hf)
          have ci : x1.cell? ⟨M, 23, none⟩ = some (.int .i64 0) := HR.out.km.cell 23
          have fi := HR.out.km.frozen 23
          have HR : Hid (RkS W (x1.setCell ⟨M, 23, none⟩ (.int .i64 p2)) b N M s (b3, f3) 30 zeroO.l (⟨n0, n1, n2, 5, 0, 0, 0, 0, 0, 0, 0, 0, none, 0, 0, ⟨0, 0, 0, 0, 0, 0, 0, 0⟩, p0, p1, p2, 0, ⟨#[]⟩⟩ : GOd).l) := HR.out.put 23 (.int .i64 p2)
          clear hk hf
          go_upto_region 22 with (fail)
          clear ci fi
          generalize World.setCell _ _ _ = v2 at HR ⊢
          go_wp2_with fail
          refine (rkNumber s b b3 f3 v2 HS.out HR.out.i).mono ?_
          rw [HG3.out]
          rintro en x1 ⟨rfl, hk, hf⟩
          have HR := Lib.hid (HR.out.num hk hf)
          have ci : x1.cell? ⟨M, 24, none⟩ = some (.int .i64 0) := HR.out.km.cell 24
          have fi := HR.out.km.frozen 24
          have HR : Hid (RkS W (x1.setCell ⟨M, 24, none⟩ (.int .i64 p3)) b N M s (b4, f4) 30 zeroO.l (⟨n0, n1, n2, 5, 0, 0, 0, 0, 0, 0, 0, 0, none, 0, 0, ⟨0, 0, 0, 0, 0, 0, 0, 0⟩, p0, p1, p2, p3, ⟨#[]⟩⟩ : GOd).l) := HR.out.put 24 (.int .i64 p3)
          clear hk hf
          go_upto_region 23 with (fail)
          clear ci fi
          generalize World.setCell _ _ _ = v3 at HR ⊢
          go_wp2_with fail
          refine (rkText s b b4 f4 v3 HS.out HR.out.i).mono ?_
          rw [HTT.out]
          rintro en x1 ⟨rfl, hk, hf⟩
          have HR := Lib.hid (HR.out.num hk hf)
          have ci : x1.cell? ⟨M, 25, none⟩ = some (.string ⟨#[]⟩) := HR.out.km.cell 25
          have fi := HR.out.km.frozen 25
          have HR : Hid (RkS W (x1.setCell ⟨M, 25, none⟩ (.string ⟨t.toArray⟩)) b N M s (b5, f5) 30 zeroO.l (⟨n0, n1, n2, 5, 0, 0, 0, 0, 0, 0, 0, 0, none, 0, 0, ⟨0, 0, 0, 0, 0, 0, 0, 0⟩, p0, p1, p2, p3, ⟨t.toArray⟩⟩ : GOd).l) := HR.out.put 25 (.string ⟨t.toArray⟩)
          clear hk hf
          go_wp2_with fail
          go_meet
          exact ⟨b5, f5, (⟨n0, n1, n2, 5, 0, 0, 0, 0, 0, 0, 0, 0, none, 0, 0, ⟨0, 0, 0, 0, 0, 0, 0, 0⟩, p0, p1, p2, p3, ⟨t.toArray⟩⟩ : GOd), [], none, 0, HR.out, HPL.out.1, fun h => ⟨HPL.out.2 h, HL2.out, .inl rfl, rfl, Nat.zero_le _, HTL.out, fun x e => by cases e⟩⟩
        · have h0 : e4 ≠ 0 := fun e => (of_decide_eq_false HBB.out) ⟨e, h⟩
          have HNO : Hid (NoOrd (ordR s.data.toList)) := rk_other H4.out h
          have HE0 := Lib.hid h0
          have q1 : (n3 == 1) = false := beq_eq_false_iff_ne.2 (by omega)
          have q2 : (n3 == 2) = false := beq_eq_false_iff_ne.2 (by omega)
          have q3 : (n3 == 3) = false := beq_eq_false_iff_ne.2 (by omega)
          have q4 : (n3 == 4) = false := beq_eq_false_iff_ne.2 (by omega)
          have q5 : (n3 == 5) = false := beq_eq_false_iff_ne.2 (by omega)
          clear h h0 k3 c2
          go_wp2_with fail
          go_meet
          exact ⟨a4, e4, (⟨n0, n1, n2, n3, 0, 0, 0, 0, 0, 0, 0, 0, none, 0, 0, ⟨0, 0, 0, 0, 0, 0, 0, 0⟩, 0, 0, 0, 0, ⟨#[]⟩⟩ : GOd), [], none, 0, HR.out, fun _ => HNO.out, fun h => absurd h HE0.out⟩
      case rest =>
        obtain ⟨a, e, o, al, oa, ca, hr, hno, hok⟩ := hcut
        have HR := Lib.hid hr
        have HNO := Lib.hid hno
        have HOK := Lib.hid hok
        have c2 : wc.cell? ⟨b, 2, none⟩ = some (.int .i64 e) := hr.i.cell 2
        have c1 : wc.cell? ⟨b, 1, none⟩ = some (.int .i64 a) := hr.i.cell 1
        clear hr hno hok
        obtain ⟨ln, hln⟩ : ∃ ln, s.data.toList.length = ln := ⟨_, rfl⟩
        have hsl : s.size = ln := by rw [← hln]; exact Array.length_toList.symm
        by_cases h0 : e = 0
        · subst h0
          obtain ⟨r1, r2, r3, r4, r5, r6, r7⟩ := HOK.out rfl
          rw [hln] at r2
          by_cases h1 : a < (ln : Int)
          · have HNO : Hid (NoOrd (ordR s.data.toList)) := (by rw [r1, finO_no (by rw [hln]; omega)]; exact noOrd_wire : NoOrd (ordR s.data.toList))
            have f2 := HR.out.i.frozen 2
            have HR := Lib.hid (RkS.err (c := 10) HR.out)
            have d2 : (World.setCell wc ⟨b, 2, none⟩ (.int .i64 10)).cell? ⟨b, 2, none⟩ = some (.int .i64 10) := HR.out.i.cell 2
            have HCN : Hid ((10 : Int) ≠ 0) := (by decide : (10 : Int) ≠ 0)
            clear r1 r2 r3 r4 r5 r6 r7 hln HOK
            go_upto_region 27 with (fail)
            clear f2 d2 c1 c2 h1
            generalize World.setCell _ _ _ = z0 at HR ⊢
            refine wp_region_held_drew (S := fun W => W.cell? ⟨b, 2, none⟩ = some (.int .i64 (10))) (by kernel_rfl) ?_ (fun hHeld => ?_)
            · exact HR.out.drew.i.cell 2
            have hr9 := HR.out.drew
            generalize World.drew _ = z at hr9 hHeld ⊢
            have HR := Lib.hid hr9
            clear hr9
            refine tk 0 (some 109) ?_
            refine tk 1 (some 110) ?_
            refine tk 2 (some 111) ?_
            refine tk 3 (some 112) ?_
            refine tk 4 (some 113) ?_
            refine rd1 5 none (fun K hK => ?_)
            refine step_storeRow (by rfl) 30 (.tmp 2) (.tmp 109) (by rfl) N 30 zeroO.l zOa (by rfl) (by rfl) HR.out.kn (Nat.le_refl _) HSZ.out zero_one ?_
            have hkz := Blk.sets zOl 0 HR.out.kn
            rw [sets_zero] at hkz
            have HKZ := Lib.hid hkz
            have HE2 : Hid (World.cell? (z.setCells N 0 zOl) ⟨b, 2, none⟩ = some (.int .i64 (10))) := (Blk.kept HR.out.i (heap_setCells N b HG.out.1 zOl 0 _)).cell 2
            have HFZ : Hid (Fr (fun c => c = b) W (z.setCells N 0 zOl)) := Fr.setCells N zOl 0 HR.out.fr (.inr HG.out.2.1)
            clear hkz
            generalize World.setCells _ _ _ _ = zz at HKZ HE2 HFZ ⊢
            refine hK.out _ _ ?_ (fun hHeld2 => ?_)
            · exact HE2.out
            clear hK K hHeld
            rename _ => hHeld
            try simp only [Act.put, List.setIfInBounds_toArray, List.set_cons_zero, List.set_cons_succ]
            refine tk 6 (some 3) ?_
            refine wpAnyH_done (by kernel_rfl) ?_ _
            clear hHeld
            go_wp2_with fail
            refine bodyPost_ret (results_row_tmp Tryz.results46 _ _ N 30 zeroO.l.toArray (0, 0) _ rfl HKZ.out Tryz.underlying30 rfl HSZ.out) rfl ?_
            exact ⟨HFZ.out.below _ (Nat.le_refl _) (fun c e => by have := HG.out.2.2; omega), .inr ⟨noOrd_dec HNO.out, 10, HCN.out, rfl⟩⟩
          · have hae : a = (s.data.toList.length : Int) := by rw [hln]; omega
            have hor : ordR s.data.toList = .ok o al := by rw [r1, finO_ok hae]
            have HVL := Lib.hid (gRef15 (o.withA oa ca) al wc r4 (by show o.an ≤ 1000000; omega) r3 r6)
            have HOC : Hid ((o.withA oa ca).l.toArray.all (·.oneCell') = true) := (o.withA oa ca).oneC
            have HZC : Hid (zeroO.l.toArray.all (·.oneCell') = true) := zeroO.oneC
            have HSE : Hid (zeroO.l.toArray.size = (o.withA oa ca).l.toArray.size) := rfl
            have HR3 := Lib.hid r3
            have HR7 := Lib.hid r7
            have HR4 := Lib.hid r4
            have HR5 := Lib.hid r5
            have HR6 := Lib.hid r6
            have HOR := Lib.hid hor
            clear r1 r2 r3 r4 r5 r6 r7 hae hor hln
            go_upto_region 28 with (fail)
            go_wp2_with (refine wpList_load_mid rfl 30 (.tmp 5) rfl M 0 rfl (o.withA oa ca).l _ HR.out.km.range Tryz.underlying30 rfl HSZ.out ?_)
            refine HVL.out.mono ?_
            rintro en z1 ⟨rfl, hbz⟩
            have HRZ := Lib.hid (HR.out.below hbz)
            have hra := HR3.out.kept hbz
            clear hbz c1 c2
            cases hok : okB (o.withA oa ca) al with
            | false =>
              have HNO : Hid (NoOrd (decR s.data.toList)) := (by unfold decR; rw [HOR.out]; show NoOrd (if okB o al = true then _ else _); rw [show okB o al = false from hok]; exact noOrd_bad : NoOrd (decR s.data.toList))
              obtain ⟨z2, hz2⟩ : ∃ z2, z1.setRow N zeroO.l.toArray = z2 := ⟨_, rfl⟩
              have HK9 : Hid (Blk z2 N 30 zeroO.l) := (by rw [← hz2]; exact HRZ.out.kn.setRow zeroO.l : Blk z2 N 30 zeroO.l)
              have HF9 : Hid (Fr (fun c => c = b) W z2) := (by rw [← hz2]; exact HRZ.out.fr.setRow N _ (.inr HG.out.2.1) : Fr (fun c => c = b) W z2)
              have HZ2 := Lib.hid hz2
              clear hz2 hra
              go_wp2_with (refine wpList_store_row rfl 30 (.tmp 2) (.tmp 118) rfl N zeroO.l.toArray rfl rfl 30 _ HRZ.out.kn HSZ.out rfl HZC.out ?_; rw [HZ2.out])
              refine bodyPost_ret (results_row_tmp Tryz.results46 _ _ N 30 zeroO.l.toArray (0, 0) _ rfl HK9.out Tryz.underlying30 rfl HSZ.out) rfl ?_
              exact ⟨HF9.out.below _ (Nat.le_refl _) (fun c e => by have := HG.out.2.2; omega), .inr ⟨HNO.out, 110, by decide, rfl⟩⟩
            | true =>
              have HDE : Hid (decR s.data.toList = .ok o al) := (by unfold decR; rw [HOR.out]; show (if okB o al = true then _ else _) = _; rw [show okB o al = true from hok]; rfl : decR s.data.toList = .ok o al)
              obtain ⟨z2, hz2⟩ : ∃ z2, z1.setRow N (o.withA oa ca).l.toArray = z2 := ⟨_, rfl⟩
              have HK9 : Hid (Blk z2 N 30 (o.withA oa ca).l) := (by rw [← hz2]; exact HRZ.out.kn.setRow (o.withA oa ca).l : Blk z2 N 30 (o.withA oa ca).l)
              have HF9 : Hid (Fr (fun c => c = b) W z2) := (by rw [← hz2]; exact HRZ.out.fr.setRow N _ (.inr HG.out.2.1) : Fr (fun c => c = b) W z2)
              have HRA : Hid (RdA z2 oa al) := (by
                rw [← hz2]
                by_cases h9 : oa = none
                · rcases hra with e | ⟨b9, o9, e, _⟩
                  · exact .inl e
                  · rw [h9] at e; cases e
                · refine hra.keptB (by simp [World.setRow]) (fun b9 o9 e hlt => heap_setRow_other _ _ _ _ ?_)
                  exact (HR7.out _ e).2 : RdA z2 oa al)
              have HZ2 := Lib.hid hz2
              clear hz2 hra
              go_wp2_with (first | (refine wpList_load_mid rfl 30 (.tmp 5) rfl M 0 rfl (o.withA oa ca).l _ HRZ.out.km.range Tryz.underlying30 rfl HSZ.out ?_) | (refine wpList_store_row rfl 30 (.tmp 2) (.tmp 119) rfl N (o.withA oa ca).l.toArray rfl rfl 30 _ HRZ.out.kn HSZ.out HSE.out HOC.out ?_; rw [HZ2.out]))
              refine bodyPost_ret (results_row_tmp Tryz.results46 _ _ N 30 (o.withA oa ca).l.toArray (0, 0) _ rfl HK9.out Tryz.underlying30 rfl HSZ.out) rfl ?_
              exact ⟨HF9.out.below _ (Nat.le_refl _) (fun c e => by have := HG.out.2.2; omega), .inl ⟨o, al, oa, ca, HDE.out, rfl, HRA.out, HR4.out, HR5.out, HR6.out, fun x e => (HR7.out x e).1⟩⟩
        · have HNO := Lib.hid (HNO.out h0)
          have HCN := Lib.hid h0
          have q0 : (e == 0) = false := beq_eq_false_iff_ne.2 h0
          clear HOK hln h0
          go_upto_region 27 with (fail)
          clear q0 c1 c2
          generalize hzz : wc = z0 at HR ⊢
          clear hzz
          refine wp_region_held_drew (S := fun W => W.cell? ⟨b, 2, none⟩ = some (.int .i64 (e))) (by kernel_rfl) ?_ (fun hHeld => ?_)
          · exact HR.out.drew.i.cell 2
          have hr9 := HR.out.drew
          generalize World.drew _ = z at hr9 hHeld ⊢
          have HR := Lib.hid hr9
          clear hr9
          refine tk 0 (some 109) ?_
          refine tk 1 (some 110) ?_
          refine tk 2 (some 111) ?_
          refine tk 3 (some 112) ?_
          refine tk 4 (some 113) ?_
          refine rd1 5 none (fun K hK => ?_)
          refine step_storeRow (by rfl) 30 (.tmp 2) (.tmp 109) (by rfl) N 30 zeroO.l zOa (by rfl) (by rfl) HR.out.kn (Nat.le_refl _) HSZ.out zero_one ?_
          have hkz := Blk.sets zOl 0 HR.out.kn
          rw [sets_zero] at hkz
          have HKZ := Lib.hid hkz
          have HE2 : Hid (World.cell? (z.setCells N 0 zOl) ⟨b, 2, none⟩ = some (.int .i64 (e))) := (Blk.kept HR.out.i (heap_setCells N b HG.out.1 zOl 0 _)).cell 2
          have HFZ : Hid (Fr (fun c => c = b) W (z.setCells N 0 zOl)) := Fr.setCells N zOl 0 HR.out.fr (.inr HG.out.2.1)
          clear hkz
          generalize World.setCells _ _ _ _ = zz at HKZ HE2 HFZ ⊢
          refine hK.out _ _ ?_ (fun hHeld2 => ?_)
          · exact HE2.out
          clear hK K hHeld
          rename _ => hHeld
          try simp only [Act.put, List.setIfInBounds_toArray, List.set_cons_zero, List.set_cons_succ]
          refine tk 6 (some 3) ?_
          refine wpAnyH_done (by kernel_rfl) ?_ _
          clear hHeld
          go_wp2_with fail
          refine bodyPost_ret (results_row_tmp Tryz.results46 _ _ N 30 zeroO.l.toArray (0, 0) _ rfl HKZ.out Tryz.underlying30 rfl HSZ.out) rfl ?_
          exact ⟨HFZ.out.below _ (Nat.le_refl _) (fun c e => by have := HG.out.2.2; omega), .inr ⟨noOrd_dec HNO.out, e, HCN.out, rfl⟩⟩
end Go.Proofs.YtjkiidhnmljmbaaGreatDoor
