/-
  The walk of media.Find.
-/
import Derived.WalkKit
import Derived.LoopTactic
import Derived.WalkSpells
import Derived.WalkLawsBesides
import Derived.RegionTactic
import Derived.BigRegion
import Derived.Deep.QuietTactic
import Derived.Deep.RegionHeld3
import Derived.BigQuiet
import Derived.IntWalk
import Derived.Outline
import Derived.Test.YtfplajafekpccaaMedJ
set_option linter.unusedVariables false
set_option linter.unusedSimpArgs false
namespace Go.Proofs.Ytfplajafekpccaa
open Go.RowKit Onair
/-- The first asset with an item. -/
def firstA (l : List Ast) (x : Int) : Option Ast := l[idxA l x]?
def fI (l : List Ast) (x : Int) : Int := if (firstA l x).isSome then x else 0
def fP (l : List Ast) (x : Int) : List Pic := match firstA l x with | none => [] | some a => a.ps
def fB (l : List Ast) (x : Int) : Bool := (firstA l x).isSome
set_option maxHeartbeats 4000000 in
set_option maxRecDepth 100000 in
theorem find_any (W : World) (oa : Option Addr) (cap : Nat) (l : List Ast) (x : Int) (hl : l.length ≤ 1000000) (hr : RdA W oa l) (hps : ∀ a ∈ l, RdP W a.o a.ps ∧ a.ps.length ≤ 1000000) :
    Calls Try.prog 28 #[.slice oa l.length cap, .int .i64 x] W fun e w' => ∃ ob cb, e = .returned (.tuple #[.agg #[.int .i64 (fI l x), .slice ob (fP l x).length cb], .bool (fB l x)]) ∧ w'.ownsRow W.heap.size 42 3 (.slice ob (fP l x).length cb) (fP l x).length (pcells (fP l x)) ∧ Below W.heap.size W w' := by
  have hmf : ∀ (fn : Fn) (first cap : Array Value) (w : World), (Instr.makeFunc fn first cap).run Try.prog w = .ok (.func fn first cap) w := fun _ _ _ _ => rfl
  have hb0 : Below W.heap.size W ((W.alloc (.cells #[.int .i64 x] 3)).alloc (.cells #[.int .i64 0, .slice none 0 0] 24)) := ((Below.refl _ W).alloc (Nat.le_refl _) _).alloc (by simp) _
  have hk0 := (Blk.new W 3 [.int .i64 x]).alloc (.cells #[.int .i64 0, .slice none 0 0] 24)
  have hk1 := Blk.new (W.alloc (.cells #[.int .i64 x] 3)) 24 [.int .i64 0, .slice none 0 0]
  rw [World.size_alloc] at hk1
  have HIX := Lib.hid (index_any _ oa cap l x W.heap.size hl (hr.kept hb0) hk0)
  have HR0 := Lib.hid (hr.kept hb0)
  have HK0 := Lib.hid hk0
  have HK1 := Lib.hid hk1
  have HB0 := Lib.hid hb0
  have HPS := Lib.hid hps
  have HRW := Lib.hid hr
  obtain ⟨n, hn⟩ : ∃ n, l.length = n := ⟨_, rfl⟩
  have HN := Lib.hid hn
  rw [hn] at hl HIX ⊢
  clear hr hps hb0 hk0 hk1 hn
  go_enter Try.func28, Try.ntmps28
  go_wp2_with fail
  refine HIX.out.mono ?_
  rintro e w2 ⟨rfl, hb2⟩
  have HB2 := Lib.hid (bstep HB0.out hb2)
  have HR2 := Lib.hid (HR0.out.kept hb2)
  have HK2 := Lib.hid (HK0.out.kept (hb2.block _ HK0.out.lt))
  have HK3 := Lib.hid (HK1.out.kept (hb2.block _ HK1.out.lt))
  clear hb2 HIX HB0 HR0 HK0 HK1
  obtain ⟨r, hr⟩ : ∃ r, W.heap.size = r := ⟨_, rfl⟩
  rw [hr] at HB2 HK2 HK3 ⊢
  have HR := Lib.hid hr
  clear hr
  have c0 := HK2.out.cell 0
  have d0 := HK3.out.cell 0
  have f0 := HK3.out.frozen 0
  have d1 := (HK3.out.set 0 (.int .i64 0)).cell 1
  have f1 := (HK3.out.set 0 (.int .i64 0)).frozen 1
  simp only [List.getElem?_cons_zero, List.getElem?_cons_succ, List.set_cons_zero, List.set_cons_succ] at c0 d0 d1
  rcases hcase : firstA l x with _ | a
  · have hE : idxI l x = -1 := by
      unfold firstA at hcase
      unfold idxI
      rw [if_neg (by rw [List.getElem?_eq_none_iff] at hcase; omega)]
    have e1 : fI l x = 0 := by unfold fI; rw [hcase]; rfl
    have e2 : fP l x = [] := by unfold fP; rw [hcase]
    have e3 : fB l x = false := by unfold fB; rw [hcase]; rfl
    rw [hE]
    have E1 := Lib.hid e1
    have E2 := Lib.hid e2
    have E3 := Lib.hid e3
    clear hE e1 e2 e3 hcase
    have hb3 := (HK3.out.set 0 (.int .i64 0)).set 1 (.slice none 0 0)
    have g0 := hb3.cell 0
    have g1 := hb3.cell 1
    simp only [List.getElem?_cons_zero, List.getElem?_cons_succ, List.set_cons_zero, List.set_cons_succ] at g0 g1
    have HBB : Hid (Below r W ((w2.setCell ⟨r + 1, 0, none⟩ (.int .i64 0)).setCell ⟨r + 1, 1, none⟩ (.slice none 0 0))) := (HB2.out.setCell (p := ⟨r + 1, 0, none⟩) (Nat.le_succ _) _).setCell (p := ⟨r + 1, 1, none⟩) (Nat.le_succ _) _
    clear hb3
    go_wp2_with fail
    refine bodyPost_ret (v := .tuple #[.agg #[.int .i64 0, .slice none 0 0], .bool false]) (by simp [results, Try.results28, go_sem, g0, g1]) rfl ?_
    rw [E1.out, E2.out, E3.out, HR.out]
    exact ⟨none, 0, rfl, World.ownsRow_nil _ _ _ _, HBB.out⟩
  · have hlt : idxA l x < l.length := (List.getElem?_eq_some_iff.1 hcase).1
    have hE : idxI l x = (idxA l x : Int) := by unfold idxI; rw [if_pos hlt]
    have e1 : fI l x = x := by unfold fI; rw [hcase]; rfl
    have e2 : fP l x = a.ps := by unfold fP; rw [hcase]
    have e3 : fB l x = true := by unfold fB; rw [hcase]; rfl
    rw [hE]
    have E1 := Lib.hid e1
    have E2 := Lib.hid e2
    have E3 := Lib.hid e3
    have HA : Hid (l[idxA l x]? = some a) := hcase
    obtain ⟨k, hk⟩ : ∃ k, idxA l x = k := ⟨_, rfl⟩
    rw [hk, HN.out] at hlt
    rw [hk] at HA ⊢
    clear hE e1 e2 e3 hcase hk
    have q1 : (k : Int) < n := by omega
    have q2 : ¬ (k : Int) < 0 := by omega
    obtain ⟨g, off, e', a0, a1⟩ := HR2.out.at k a HA.out
    have hgr : g < r := by
      obtain ⟨g2, off2, e2, a2, _⟩ := HRW.out.at k a HA.out
      rw [e'] at e2
      cases e2
      rw [← HR.out]
      exact block_lt a2
    subst e'
    have hps := HPS.out a (List.mem_of_getElem? HA.out)
    obtain ⟨ob, cb, w3, hrun, ho, hb3⟩ := copy_run w2.drew a.o a.c a.ps hps.2 (hps.1.kept (by rw [HR.out]; exact HB2.out.drew)) 22
    have hg : g < w2.heap.size := block_lt a0
    have hr1 : r + 1 < w2.heap.size := HK3.out.lt
    clear d0 f0 d1 f1
    have k3 : Blk w3 (r + 1) 24 [.int .i64 0, .slice none 0 0] := HK3.out.kept (hb3.block (r + 1) hr1)
    have k4 := (k3.set 0 (.int .i64 x)).set 1 (.slice ob a.ps.length cb)
    have K4 := Lib.hid k4
    have d0 := k3.cell 0
    have f0 := k3.frozen 0
    have d1 := (k3.set 0 (.int .i64 x)).cell 1
    have f1 := (k3.set 0 (.int .i64 x)).frozen 1
    have g0 := k4.cell 0
    have g1 := k4.cell 1
    simp only [List.getElem?_cons_zero, List.getElem?_cons_succ, List.set_cons_zero, List.set_cons_succ] at d0 d1 g0 g1
    have hs0 : ((w3.setCell ⟨r + 1, 0, none⟩ (.int .i64 x)).setCell ⟨r + 1, 1, none⟩ (.slice ob a.ps.length cb)).cell? ⟨r, 0, none⟩ = some (.int .i64 x) := by
      rw [World.cell?_setCell_other _ _ _ _ (by simp), World.cell?_setCell_other _ _ _ _ (by simp)]
      exact (hb3.cell (p := ⟨r, 0, none⟩) (by show r < w2.heap.size; omega)).trans c0
    have hs1 : ((w3.setCell ⟨r + 1, 0, none⟩ (.int .i64 x)).setCell ⟨r + 1, 1, none⟩ (.slice ob a.ps.length cb)).cell? ⟨g, off + k * 2 + 1, none⟩ = some (.slice a.o a.ps.length a.c) := by
      rw [World.cell?_setCell_other _ _ _ _ (by intro e; have e2 : r + 1 = g := congrArg Addr.block e; omega), World.cell?_setCell_other _ _ _ _ (by intro e; have e2 : r + 1 = g := congrArg Addr.block e; omega)]
      exact (hb3.cell (p := ⟨g, _, none⟩) hg).trans a1
    clear k3 k4
    go_wp2_with fail
    go_region_held3 (fun w' => w'.cell? ⟨r, 0, none⟩ = some (.int .i64 x) ∧ w'.cell? ⟨g, off + k * 2 + 1, none⟩ = some (.slice a.o a.ps.length a.c)) (first | go_keep | exact ⟨(hb3.cell (p := ⟨r, 0, none⟩) (by show r < w2.heap.size; omega)).trans c0, (hb3.cell (p := ⟨g, _, none⟩) hg).trans a1⟩ | exact ⟨hs0, hs1⟩)
      (first | (refine step_append_run _ rfl _ _ 22 rfl _ _ _ _ rfl rfl hrun ?_))
    have HOW : Hid (((w3.setCell ⟨r + 1, 0, none⟩ (.int .i64 x)).setCell ⟨r + 1, 1, none⟩ (.slice ob a.ps.length cb)).ownsRow r 42 3 (.slice ob a.ps.length cb) a.ps.length (pcells a.ps)) := by
      refine own_weak (ownsRow_kept' ho (fun g' hg' => ?_)) (by show r ≤ w2.heap.size; omega)
      have h1 : w2.heap.size ≤ g' := own_ge ho g' hg'
      rw [Below.heap_setCell _ _ _ _ (by show g' ≠ r + 1; omega), Below.heap_setCell _ _ _ _ (by show g' ≠ r + 1; omega)]
    have HBB : Hid (Below r W ((w3.setCell ⟨r + 1, 0, none⟩ (.int .i64 x)).setCell ⟨r + 1, 1, none⟩ (.slice ob a.ps.length cb))) :=
      ((HB2.out.drew.trans (hb3.mono (by show r ≤ w2.heap.size; omega))).setCell (p := ⟨r + 1, 0, none⟩) (Nat.le_succ _) _).setCell (p := ⟨r + 1, 1, none⟩) (Nat.le_succ _) _
    clear hs0 hs1 hrun ho hb3 d0 d1 f0 f1
    go_wp2_with fail
    refine bodyPost_ret (v := .tuple #[.agg #[.int .i64 x, .slice ob a.ps.length cb], .bool true]) (by simp [results, Try.results28, go_sem, g0, g1]) rfl ?_
    rw [E1.out, E2.out, E3.out, HR.out]
    exact ⟨ob, cb, rfl, HOW.out, HBB.out⟩
end Go.Proofs.Ytfplajafekpccaa
