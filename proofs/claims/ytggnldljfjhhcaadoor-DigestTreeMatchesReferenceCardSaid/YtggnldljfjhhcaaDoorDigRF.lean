/-
  The reference implementation of package digest: part.
-/
import Derived.WalkKit
import Derived.LoopTactic
import Derived.WalkSpells
import Derived.WalkLawsBesides
import Derived.IntWalk
import Derived.Outline
import Derived.Deep.QuietTactic
import Derived.BigQuiet
import Derived.Deep.RegionLaw
import Derived.Deep.RegionHeld3
import Derived.Deep.DrawnRows
import Derived.Deep.AppendLies
import Derived.Laws.EntriesVeiled
import Derived.Lib.Hide
import Derived.Laws.OwnMore
import Derived.Test.YtggnldljfjhhcaaDoorDigSha
import Derived.Test.YtggnldljfjhhcaaDoorDigH
import Derived.Test.YtggnldljfjhhcaaDoorDigJ
import Derived.Test.YtggnldljfjhhcaaDoorDigM
import Derived.Test.YtggnldljfjhhcaaDoorDigN
import Derived.Test.YtggnldljfjhhcaaDoorDigO
import Derived.Test.YtggnldljfjhhcaaDoorDigP
import Derived.Test.YtggnldljfjhhcaaDoorDigQ
import Derived.Test.YtggnldljfjhhcaaDoorDigRE
set_option linter.unusedVariables false
set_option linter.unusedSimpArgs false
namespace Go.Proofs.YtggnldljfjhhcaaDoor
open Go.RowKit Onair
attribute [local go_sem ↓] Go.wp_at_zero Go.wp_at_succ
theorem Up.fr {w W W' : World} {B : Nat} (h : Up w W) (hf : Hid (Fr (fun k => B ≤ k) W W')) (hB : w.heap.size ≤ B) : Up w W' :=
  (Hid.out h).trans (hf.out.below w.heap.size (Hid.out h).size (fun k hk => Nat.le_trans hB hk))
theorem Up.fr2 {w V W W' : World} (hf : Hid (Fr (fun k => V.heap.size ≤ k) W W')) (h : Up w W) (hV : Up w V) : Up w W' := Up.fr h hf (Hid.out hV).size
theorem up_of {w V W : World} (hb : Below V.heap.size V W) (h : Up w V) : Up w V := h
theorem ownV_up {t : TypeId} {w V W : World} {v : Value} {xs : List Value} (h : OwnV t V.heap.size v xs W) (hV : Up w V) : OwnV t w.heap.size v xs W := by
  refine ⟨⟨h.1.1, ?_⟩, Nat.le_trans (Hid.out hV).size h.2⟩
  rcases h.1.2 with h2 | ⟨g, cap, cur, q1, q2, q3⟩
  · exact .inl h2
  · exact .inr ⟨g, cap, cur, q1, Nat.le_trans (Hid.out hV).size q2, q3⟩
theorem extF_len2 : ∀ (f : Nat) (l : List ByteArray) (m : Nat) (wh : Bool), (extF f l m wh).length ≤ f + 1
  | 0, l, m, wh => by unfold extF; first | (simp; done) | (split <;> simp)
  | f + 1, l, m, wh => by
    have h1 := extF_len2 f (l.take (splitN l.length)) m wh
    have h2 := extF_len2 f (l.drop (splitN l.length)) (m - splitN l.length) false
    unfold extF
    split
    · split <;> simp
    · split
      · rw [List.length_append]; simp; omega
      · rw [List.length_append]; simp; omega
def PartP (w : World) (L : List ByteArray) (e : Ending) (w' : World) : Prop := ∃ oa cap, e = .returned (.slice oa L.length cap) ∧ OwnV 9 w.heap.size (.slice oa L.length cap) (L.map Value.string) w' ∧ Below w.heap.size w w'
theorem ownV_new (W : World) (B : Nat) (hB : B ≤ W.heap.size) (R : ByteArray) : OwnV 9 B (.slice (some ⟨W.heap.size, 0, none⟩) 1 1) [.string R] (W.alloc (.cells #[.string R] 9)) :=
  ⟨⟨rfl, .inr ⟨W.heap.size, 1, #[.string R], rfl, hB, heap_alloc_new W _, Nat.le_refl _, by unfold maxLen; omega, rfl, rfl⟩⟩, by simp; omega⟩
set_option maxHeartbeats 4000000 in
set_option maxRecDepth 100000 in
theorem refPart_any : ∀ (N : Nat) (l : List ByteArray) (b o n c m : Nat) (whole : Bool) (w : World), l.length ≤ N → l.length = n → n ≤ c → c ≤ 9223372036854775807 → n ≤ 1000 → 1 ≤ m → m ≤ n → SzB 1000 l → RdB w b o l →
    Calls Tryd.prog 35 #[.slice (some ⟨b, o, none⟩) n c, .int .i64 (m : Int), .bool whole] w (PartP w (extL l m whole)) := by
  intro N
  induction N with
  | zero => intro l b o n c m whole w hN hn hc hcm hnm hm1 hm2; omega
  | succ N ih =>
    intro l b o n c m whole w hN hn hc hcm hnm hm1 hm2 hs hr
    by_cases hmn : m = n
    · obtain rfl := hmn
      have HA := Lib.hid (extL_all l whole)
      rw [hn] at HA
      have HRT := Lib.hid (refRoot_any (N + 1) l (some ⟨b, o, none⟩) m c w hN hn hc hcm (by omega) hs hr.rds)
      have hq : ((m : Int) == (m : Int)) = true := beq_self_eq_true _
      clear ih hr hs hN hn
      cases whole with
      | true =>
        have HO : Hid (OwnV 9 w.heap.size (.slice none 0 0) [] w) := ⟨World.ownsRow_nil _ _ _ _, Nat.le_refl _⟩
        go_enter Tryd.func35, Tryd.ntmps35
        go_wp2_with fail
        go_ret
        exact ⟨none, 0, by rw [HA.out]; rfl, by rw [HA.out]; exact HO.out, Below.refl _ _⟩
      | false =>
        go_enter Tryd.func35, Tryd.ntmps35
        go_wp2_with fail
        refine HRT.out.mono ?_
        rintro e w2 ⟨rfl, hb2⟩
        have HB2 := Lib.hid hb2
        clear hb2
        go_wp2_with fail
        go_ret
        exact ⟨_, 1, by rw [HA.out]; rfl, by rw [HA.out]; exact ownV_new w2 _ HB2.out.size _, HB2.out.alloc HB2.out.size _⟩
    · have h2 : 2 ≤ l.length := by omega
      have hk1 := splitN_lt l.length h2
      have hk2 := splitN_pos l.length
      obtain ⟨hl1, hl2⟩ := split_lens l h2
      have HSP := Lib.hid (refLeft_any l.length w h2 (by omega))
      have HPT := Lib.hid (extL_two l m whole hm1 (by omega))
      obtain ⟨k, hk⟩ : ∃ k, splitN l.length = k := ⟨_, rfl⟩
      rw [hk] at hk1 hk2 hl1 hl2 HSP HPT
      rw [hn] at HSP hk1 hl2
      have hpl1 := extF_len2 (l.take k).length (l.take k) m whole
      have hpl2 := extF_len2 (l.drop k).length (l.drop k) (m - k) false
      change (extL (l.take k) m whole).length ≤ _ at hpl1
      change (extL (l.drop k) (m - k) false).length ≤ _ at hpl2
      rw [hl1] at hpl1
      rw [hl2] at hpl2
      have IL : Hid (∀ W, Up w W → Calls Tryd.prog 18 #[.slice (some ⟨b, o, none⟩) k c] W fun e w' => e = .returned (.string (rootL (l.take k))) ∧ Below W.heap.size W w') :=
        fun W hW => refRoot_any N (l.take k) _ k c W (by omega) hl1 (by omega) hcm (by omega) (hs.take k) (hr.kept hW.out |>.take k |>.rds)
      have IR : Hid (∀ W, Up w W → Calls Tryd.prog 18 #[.slice (some ⟨b, o + k, none⟩) (n - k) (c - k)] W fun e w' => e = .returned (.string (rootL (l.drop k))) ∧ Below W.heap.size W w') :=
        fun W hW => refRoot_any N (l.drop k) _ (n - k) (c - k) W (by omega) hl2 (by omega) (by omega) (by omega) (hs.drop k) (hr.kept hW.out |>.drop k |>.rds)
      have IP : Hid (∀ W, m ≤ k → Up w W → Calls Tryd.prog 35 #[.slice (some ⟨b, o, none⟩) k c, .int .i64 (m : Int), .bool whole] W (PartP W (extL (l.take k) m whole))) :=
        fun W hmk hW => ih (l.take k) b o k c m whole W (by omega) hl1 (by omega) hcm (by omega) hm1 hmk (hs.take k) ((hr.kept hW.out).take k)
      have IQ : Hid (∀ W, k < m → Up w W → Calls Tryd.prog 35 #[.slice (some ⟨b, o + k, none⟩) (n - k) (c - k), .int .i64 ((m : Int) - (k : Int)), .bool false] W (PartP W (extL (l.drop k) (m - k) false))) :=
        fun W hmk hW => by
          have := ih (l.drop k) b (o + k) (n - k) (c - k) (m - k) false W (by omega) hl2 (by omega) (by omega) (by omega) (by omega) (by omega) (hs.drop k) ((hr.kept hW.out).drop k)
          rw [show ((m - k : Nat) : Int) = (m : Int) - (k : Int) by omega] at this
          exact this
      have n1 : ((m : Int) == (n : Int)) = false := by rw [beq_eq_false_iff_ne]; omega
      have k0 : (0 : Int) ≤ (k : Int) := by omega
      have kc : (k : Int) ≤ (c : Int) := by omega
      have kn : (k : Int) ≤ (n : Int) := by omega
      have kk : (k : Int) < (c : Int) := by omega
      have nc : (n : Int) ≤ (c : Int) := by omega
      have kne : ¬ k = c := by omega
      have kne2 : ¬ c = k := by omega
      clear ih hr hs hN hk hk2 hl1 hl2 h2
      by_cases hmk : m ≤ k
      · have q1 : (m : Int) ≤ (k : Int) := by omega
        obtain ⟨ys, hys⟩ : ∃ ys, extL (l.take k) m whole = ys := ⟨_, rfl⟩
        obtain ⟨R, hR⟩ : ∃ R, rootL (l.drop k) = R := ⟨_, rfl⟩
        have HE : Hid (extL l m whole = ys ++ [R]) := by show _ = _; rw [HPT.out, if_pos hmk, hys, hR]
        have hyl : ys.length ≤ 100000 := by rw [← hys]; omega
        have HYL : Hid ((ys.map Value.string).length = ys.length) := by show _ = _; simp
        rw [hys] at IP
        rw [hR] at IR
        have HU := Up.refl w
        clear hys hR HPT hpl1 hpl2
        go_enter Tryd.func35, Tryd.ntmps35
        go_wp2_with fail
        refine HSP.out.mono ?_
        rintro e w2 ⟨rfl, rfl⟩
        go_wp2_with fail
        go_region_held3 (fun W => Up w W) (first | assumption | exact HU5 | exact Up.next (by assumption) (by assumption) | exact Up.drew (by assumption) | exact Up.next ((Below.refl _ _).alloc (Nat.le_refl _) _) (by assumption) | exact Up.drew (Up.next ((Below.refl _ _).alloc (Nat.le_refl _) _) (by assumption)) | exact Up.next ((Below.refl _ _).alloc (Nat.le_refl _) _) (Up.drew (by assumption)))
          (first
            | ((with_reducible refine (IP.out _ hmk (by assumption)).mono ?_); rintro e w3 ⟨oa, cap, rfl, hown, hb⟩; have HO := Lib.hid hown; have HUV := up_of hb (by first | assumption | exact Up.drew (by assumption)); clear hown)
            | ((with_reducible refine (IR.out _ (by assumption)).mono ?_); rintro e w4 ⟨rfl, hb4⟩; have HU4 : Up w w4 := Up.next hb4 (by first | assumption | exact Up.drew (by assumption)); have HO4 : Hid (OwnV _ _ _ _ w4) := (by first | exact (HO.out.kept (Below.refl _ _).drew).kept hb4 | exact HO.out.kept hb4))
            | (refine step_appN (st := 22) HYL.out Tryd.underlying22 Tryd.infoStr rfl (by decide) (by rfl) _ _ (by rfl) (by rfl) (by rfl) (by first | exact HO4.out.kept (Below.refl _ _).drew | exact HO4) (by omega) (by rfl) ?_; intro oa2 cap2 w5 HO5 HF; have HU5 : Up w w5 := (by first | exact Up.fr2 HF HU4 HUV | exact Up.fr2 HF (Up.drew HU4) HUV)))
        have HB5 : Hid (Below w.heap.size w w5) := (by assumption : Up w w5)
        go_wp2_with fail
        go_ret
        refine ⟨oa2, cap2, by rw [HE.out, List.length_append]; rfl, ?_, HB5.out⟩
        rw [HE.out, List.length_append, List.map_append]
        first | exact HO5.out | exact ownV_up HO5.out HUV | exact ownV_up HO5.out (by first | assumption | exact Up.drew (by assumption) | exact Up.drew (Up.refl w))
      · have q2 : ¬ (m : Int) ≤ (k : Int) := by omega
        have q1 : (k : Int) ≤ (m : Int) := by omega
        have hkm : k < m := by omega
        have q3 : IntKind.i64.wrap ((m : Int) - (k : Int)) = (m : Int) - (k : Int) := IntWalk.i64_in _ (by omega)
        obtain ⟨ys, hys⟩ : ∃ ys, extL (l.drop k) (m - k) false = ys := ⟨_, rfl⟩
        obtain ⟨R, hR⟩ : ∃ R, rootL (l.take k) = R := ⟨_, rfl⟩
        have HE : Hid (extL l m whole = ys ++ [R]) := by show _ = _; rw [HPT.out, if_neg hmk, hys, hR]
        have hyl : ys.length ≤ 100000 := by rw [← hys]; omega
        have HYL : Hid ((ys.map Value.string).length = ys.length) := by show _ = _; simp
        rw [hys] at IQ
        rw [hR] at IL
        have HU := Up.refl w
        clear hys hR HPT hpl1 hpl2
        go_enter Tryd.func35, Tryd.ntmps35
        go_wp2_with fail
        refine HSP.out.mono ?_
        rintro e w2 ⟨rfl, rfl⟩
        go_wp2_with fail
        go_region_held3 (fun W => Up w W) (first | assumption | exact HU5 | exact Up.next (by assumption) (by assumption) | exact Up.drew (by assumption) | exact Up.next ((Below.refl _ _).alloc (Nat.le_refl _) _) (by assumption) | exact Up.drew (Up.next ((Below.refl _ _).alloc (Nat.le_refl _) _) (by assumption)) | exact Up.next ((Below.refl _ _).alloc (Nat.le_refl _) _) (Up.drew (by assumption)))
          (first
            | ((with_reducible refine (IQ.out _ hkm (by assumption)).mono ?_); rintro e w3 ⟨oa, cap, rfl, hown, hb⟩; have HO := Lib.hid hown; have HUV := up_of hb (by first | assumption | exact Up.drew (by assumption)); clear hown)
            | ((with_reducible refine (IL.out _ (by assumption)).mono ?_); rintro e w4 ⟨rfl, hb4⟩; have HU4 : Up w w4 := Up.next hb4 (by first | assumption | exact Up.drew (by assumption)); have HO4 : Hid (OwnV _ _ _ _ w4) := (by first | exact (HO.out.kept (Below.refl _ _).drew).kept hb4 | exact HO.out.kept hb4))
            | (refine step_appN (st := 22) HYL.out Tryd.underlying22 Tryd.infoStr rfl (by decide) (by rfl) _ _ (by rfl) (by rfl) (by rfl) (by first | exact HO4.out.kept (Below.refl _ _).drew | exact HO4) (by omega) (by rfl) ?_; intro oa2 cap2 w5 HO5 HF; have HU5 : Up w w5 := (by first | exact Up.fr2 HF HU4 HUV | exact Up.fr2 HF (Up.drew HU4) HUV)))
        have HB5 : Hid (Below w.heap.size w w5) := (by assumption : Up w w5)
        go_wp2_with fail
        go_ret
        refine ⟨oa2, cap2, by rw [HE.out, List.length_append]; rfl, ?_, HB5.out⟩
        rw [HE.out, List.length_append, List.map_append]
        first | exact HO5.out | exact ownV_up HO5.out HUV | exact ownV_up HO5.out (by first | assumption | exact Up.drew (by assumption) | exact Up.drew (Up.refl w))
end Go.Proofs.YtggnldljfjhhcaaDoor
