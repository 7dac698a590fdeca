/-
  The fixed examples of the disk's laws: sane returns true.
-/
import Derived.WalkKit
import Derived.LoopTactic
import Derived.WalkSpells
import Derived.WalkLawsBesides
import Derived.IntWalk
import Derived.Test.YtdcnddbkjdbbbaaDiskG
set_option linter.unusedVariables false
set_option linter.unusedSimpArgs false
namespace Go.Proofs.Ytdcnddbkjdbbbaa
open Go.RowKit
def exS1 : ByteArray := ⟨#[97, 98]⟩
def exS2 : ByteArray := ⟨#[120, 121]⟩
def exS3 : ByteArray := ⟨#[122, 122]⟩
def exS4 : ByteArray := ⟨#[113]⟩
def exD1 : DS := writeD (newD 4) 0 exS1
def exD2 : DS := writeD exD1 1 exS2
def exD3 : DS := writeD exD2 3 exS3
def exKs (i : Nat) : Int := if i = 0 then 1 else 0
def exD4 : DS := crashD exD3 exKs 2 1
def exD5 : DS := cutD exD4 1
def exD6 : DS := writeD exD5 3 exS4
theorem Foot.mono {b bd bv : Nat} {vp vp' : Value} {n : Nat} (h : ∀ k, vp'.ownBlock = some k → vp.ownBlock = some k ∨ n ≤ k) : ∀ k, k < n → Foot b bd bv vp' k → Foot b bd bv vp k := fun k hk hf => by
  rcases hf with e | e | e | e
  · exact .inl e
  · exact .inr (.inl e)
  · exact .inr (.inr (.inl e))
  · rcases h k e with e' | e'
    · exact .inr (.inr (.inr e'))
    · omega
theorem DkAt.ge {W : World} {B b bd bv : Nat} {vp : Value} {D : DS} (h : DkAt W B b bd bv vp D) : ∀ k, Foot b bd bv vp k → B ≤ k := fun k hk => by
  rcases hk with rfl | rfl | rfl | hk
  · exact h.hb
  · exact h.hbd
  · exact h.hbv
  · rcases h.own.2 with ⟨rfl, _⟩ | ⟨g, cap, cur, rfl, q, _⟩
    · simp [Value.ownBlock] at hk
    · simp [Value.ownBlock] at hk
      omega
theorem DkAt.lt {W : World} {B b bd bv : Nat} {vp : Value} {D : DS} (h : DkAt W B b bd bv vp D) : ∀ k, Foot b bd bv vp k → k < W.heap.size := fun k hk => by
  rcases hk with rfl | rfl | rfl | hk
  · exact h.blk.lt
  · exact h.dur.lt
  · exact h.vis.lt
  · rcases h.own.2 with ⟨rfl, _⟩ | ⟨g, cap, cur, rfl, _, h2, _⟩
    · simp [Value.ownBlock] at hk
    · simp [Value.ownBlock] at hk
      subst hk
      exact (Array.getElem?_eq_some_iff.1 h2).1
/-- A step on a disk leaves what lay below B. -/
theorem DkAt.below {W W' : World} {B b bd bv : Nat} {vp : Value} {D : DS} (h : DkAt W B b bd bv vp D) (hB : B ≤ W.heap.size) (hf : Fr (Foot b bd bv vp) W W') : Below B W W' := hf.below B hB h.ge
set_option maxHeartbeats 2000000 in
set_option maxRecDepth 100000 in
theorem sane_any (W : World) : Calls Try.prog 12 #[] W fun e w' => e = .returned (.bool true) ∧ Below W.heap.size W w' := by
  go_enter Try.func12, Try.ntmps12
  go_wp2_with fail
  refine (new_ok 4 W W.heap.size (Nat.le_refl _) (by decide) (by decide)).mono ?_
  rintro e w1 ⟨b, bd, bv, rfl, hd1, hb1, q1, q2, q3⟩
  have HD1 := Lib.hid hd1
  have HB1 := Lib.hid hb1
  have hz1 := hb1.size
  clear hd1 hb1 q1 q2 q3
  go_wp2_with fail
  refine (new_bad 0 w1 (by decide)).mono ?_
  rintro e w' ⟨rfl, rfl⟩
  go_wp2_with fail
  refine (write_any w1 W.heap.size b bd bv _ (newD 4) 0 exS1 (by decide) (by decide) (small_len _ (by decide)) hz1 (by decide) (by decide) HD1.out).mono ?_
  rw [show writeE (newD 4) 0 exS1 = 0 from by decide]
  rintro e w2 ⟨rfl, vp2, hd2, hk2, hf2⟩
  have HD2 : Hid (DkAt w2 W.heap.size b bd bv vp2 exD1) := hd2
  have HB2 := Lib.hid (HB1.out.trans (HD1.out.below hz1 hf2))
  have hz2 := HB2.out.size
  clear hd2 hk2 hf2 HD1 HB1
  go_wp2_with fail
  refine (write_any w2 W.heap.size b bd bv _ exD1 1 exS2 (by decide) (by decide) (small_len _ (by decide)) hz2 (by decide) (by decide) HD2.out).mono ?_
  rw [show writeE exD1 1 exS2 = 0 from by decide]
  rintro e w3 ⟨rfl, vp3, hd3, hk3, hf3⟩
  have HD3 : Hid (DkAt w3 W.heap.size b bd bv vp3 exD2) := hd3
  have HB3 := Lib.hid (HB2.out.trans (HD2.out.below hz2 hf3))
  have hz3 := HB3.out.size
  clear hd3 hk3 hf3 HD2 HB2
  go_wp2_with fail
  refine (write_any w3 W.heap.size b bd bv _ exD2 3 exS3 (by decide) (by decide) (small_len _ (by decide)) hz3 (by decide) (by decide) HD3.out).mono ?_
  rw [show writeE exD2 3 exS3 = 240 from by decide]
  rintro e w4 ⟨rfl, vp4, hd4, hk4, hf4⟩
  have HD4 : Hid (DkAt w4 W.heap.size b bd bv vp4 exD3) := hd4
  have HB4 := Lib.hid (HB3.out.trans (HD3.out.below hz3 hf4))
  have hz4 := HB4.out.size
  clear hd4 hk4 hf4 HD3 HB3
  go_wp2_with fail
  refine (read_any w4 W.heap.size b bd bv _ exD3 0 4 (by decide) (by decide) (by decide) (by decide) HD4.out).mono ?_
  rw [show readL exD3 0 4 = [97, 120, 121, 0] from by decide, show readE exD3 0 4 = 0 from by decide]
  rintro e w' ⟨rfl, rfl⟩
  go_wp2_with fail
  refine (pending_any w4 W.heap.size b bd bv _ exD3 HD4.out).mono ?_
  rw [show (exD3.pend.length : Int) = 2 from by decide]
  rintro e w' ⟨rfl, rfl⟩
  have HD5 : Hid (DkAt (w4.alloc (.cells #[.int .i64 1, .int .i64 0] 3)) W.heap.size b bd bv vp4 exD3) := HD4.out.fr ((Fr.refl (fun _ => False) w4).alloc _) (fun _ _ e => e)
  have HB5 : Hid (Below W.heap.size W (w4.alloc (.cells #[.int .i64 1, .int .i64 0] 3))) := HB4.out.alloc hz4 _
  have hz5 : W.heap.size ≤ (w4.alloc (.cells #[.int .i64 1, .int .i64 0] 3)).heap.size := HB5.out.size
  have HK5 : Hid (IntsAt (w4.alloc (.cells #[.int .i64 1, .int .i64 0] 3)) (some ⟨w4.heap.size, 0, none⟩) 2 exKs (Foot b bd bv vp4)) := by
    refine .inr ⟨w4.heap.size, 0, rfl, by simp, fun hf => ?_, fun i hi => ?_⟩
    · exact Nat.lt_irrefl _ (HD4.out.lt _ hf)
    · rw [(Blk.new w4 3 [.int .i64 1, .int .i64 0]).cell]
      rcases (show i = 0 ∨ i = 1 by omega) with rfl | rfl <;> rfl
  go_wp2_with fail
  refine (crash_walk _ W.heap.size b bd bv _ exD3 _ 2 2 exKs 1 hz5 (by decide) (by decide) (by decide) (fun i => by unfold exKs; split <;> decide) (by decide) (by decide) (by decide) HK5.out HD5.out).mono ?_
  rintro e w6 ⟨rfl, vp6, hd6, ho6, hf6⟩
  have HD6 : Hid (DkAt w6 W.heap.size b bd bv vp6 exD4) := hd6
  have HB6 := Lib.hid (HB5.out.trans (HD5.out.below hz5 hf6))
  have hz6 := HB6.out.size
  clear hd6 ho6 hf6 HD5 HB5 HD4 HB4 HK5 hz5
  go_wp2_with fail
  refine (read_any w6 W.heap.size b bd bv _ exD4 0 4 (by decide) (by decide) (by decide) (by decide) HD6.out).mono ?_
  rw [show readL exD4 0 4 = [97, 120, 0, 0] from by decide, show readE exD4 0 4 = 0 from by decide]
  rintro e w' ⟨rfl, rfl⟩
  go_wp2_with fail
  refine (cut_any w6 W.heap.size b bd bv _ exD4 1 HD6.out).mono ?_
  rw [show cutE exD4 1 = 0 from by decide]
  rintro e w7 ⟨rfl, hd7, hf7⟩
  have HD7 : Hid (DkAt w7 W.heap.size b bd bv vp6 exD5) := hd7
  have HB7 := Lib.hid (HB6.out.trans (HD6.out.below hz6 (hf7.mono (fun k hk => .inl hk))))
  have hz7 := HB7.out.size
  clear hd7 hf7 HD6 HB6
  go_wp2_with fail
  refine (write_any w7 W.heap.size b bd bv _ exD5 3 exS4 (by decide) (by decide) (small_len _ (by decide)) hz7 (by decide) (by decide) HD7.out).mono ?_
  rw [show writeE exD5 3 exS4 = 0 from by decide]
  rintro e w8 ⟨rfl, vp8, hd8, hk8, hf8⟩
  have HD8 : Hid (DkAt w8 W.heap.size b bd bv vp8 exD6) := hd8
  have HB8 := Lib.hid (HB7.out.trans (HD7.out.below hz7 hf8))
  have hz8 := HB8.out.size
  clear hd8 hk8 hf8 HD7 HB7
  go_wp2_with fail
  refine (sync_any w8 W.heap.size b bd bv _ exD6 HD8.out).mono ?_
  rw [show stE exD6 = 241 from by decide, show syncD exD6 = exD6 from by unfold syncD; rw [if_pos (show exD6.lost = true from by decide)]]
  rintro e w9 ⟨rfl, vp9, hd9, ho9, hf9⟩
  have HD9 := Lib.hid hd9
  have HB9 := Lib.hid (HB8.out.trans (HD8.out.below hz8 hf9))
  clear hd9 ho9 hf9 HD8 HB8
  go_wp2_with fail
  refine (size_any w9 W.heap.size b bd bv _ exD6 HD9.out).mono ?_
  rw [show (exD6.vis.length : Int) = 4 from by decide]
  rintro e w' ⟨rfl, rfl⟩
  go_wp2_with fail
  go_ret
  exact ⟨rfl, HB9.out⟩
end Go.Proofs.Ytdcnddbkjdbbbaa
