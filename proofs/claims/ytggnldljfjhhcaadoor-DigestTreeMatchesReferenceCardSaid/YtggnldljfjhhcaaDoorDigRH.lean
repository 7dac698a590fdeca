/-
  Proof and Extension, given and reference, at every index.
-/
import Derived.WalkKit
import Derived.LoopTactic
import Derived.WalkSpells
import Derived.WalkLawsBesides
import Derived.IntWalk
import Derived.Outline
import Derived.Deep.QuietTactic
import Derived.BigQuiet
import Derived.Deep.RegionLaw
import Derived.Deep.RegionHeld3
import Derived.Deep.DrawnRows
import Derived.Deep.AppendLies
import Derived.Laws.EntriesVeiled
import Derived.Lib.Hide
import Derived.Laws.OwnMore
import Derived.Test.YtggnldljfjhhcaaDoorDigSha
import Derived.Test.YtggnldljfjhhcaaDoorDigH
import Derived.Test.YtggnldljfjhhcaaDoorDigJ
import Derived.Test.YtggnldljfjhhcaaDoorDigM
import Derived.Test.YtggnldljfjhhcaaDoorDigN
import Derived.Test.YtggnldljfjhhcaaDoorDigO
import Derived.Test.YtggnldljfjhhcaaDoorDigP
import Derived.Test.YtggnldljfjhhcaaDoorDigQ
import Derived.Test.YtggnldljfjhhcaaDoorDigRG
import Derived.Test.YtggnldljfjhhcaaDoorDigJ
import Derived.Test.YtggnldljfjhhcaaDoorDigP
set_option linter.unusedVariables false
set_option linter.unusedSimpArgs false
namespace Go.Proofs.YtggnldljfjhhcaaDoor
open Go.RowKit Onair
attribute [local go_sem ↓] Go.wp_at_zero Go.wp_at_succ
def TwoP (w : World) (r : List ByteArray × Nat) (e : Ending) (w' : World) : Prop := ∃ oa cap, e = .returned (.tuple #[.slice oa r.1.length cap, .int .i64 (r.2 : Int)]) ∧ RdS w' oa r.1 ∧ Below w.heap.size w w'
def prL (l : List ByteArray) (i : Int) : List ByteArray × Nat := if 0 ≤ i ∧ i < l.length then (proofL l i.toNat, 0) else ([], 2)
def exL (l : List ByteArray) (m : Int) : List ByteArray × Nat := if 0 ≤ m ∧ m ≤ l.length then (extP l m.toNat, 0) else ([], 2)
theorem rds_own {W : World} {B : Nat} {oa : Option Addr} {n cap : Nat} {L : List ByteArray} (h : OwnV 9 B (.slice oa n cap) (L.map Value.string) W) : RdS W oa L := by
  rcases h.rd.1 with h0 | ⟨b, o, e, hb, hc⟩
  · exact .inl (by simpa using h0)
  · exact .inr ⟨b, o, e, hb, fun j x hj => hc j _ (by rw [List.getElem?_map, hj]; rfl)⟩
section
variable (l : List ByteArray) (oa : Option Addr) (n c : Nat) (i : Int) (w : World) (hn : l.length = n) (hc : n ≤ c) (hcm : c ≤ 9223372036854775807) (hx : n ≤ 1000) (hs : SzB 1000 l) (hr : RdS w oa l)
include hn hc hcm hx hs hr
theorem proofG_two (ht : TabAt w) : Calls Tryd.prog 12 #[.slice oa n c, .int .i64 i] w (TwoP w (prL l i)) := by
  unfold prL
  split
  · rename_i h
    obtain ⟨k, rfl⟩ := Int.eq_ofNat_of_zero_le h.1
    obtain ⟨b, o, rfl, hb⟩ := hr.some (by omega)
    refine (proof_in l b o n c k w hn hc hcm (by omega) (by omega) (hs.mono (by decide)) hb ht).mono ?_
    rintro e w' ⟨oa, cap, h1, _, _, h2, h3⟩
    exact ⟨oa, cap, h1, h2, h3⟩
  · rename_i h
    refine (proof_out oa n c i w (by omega) (by omega)).mono ?_
    rintro e w' ⟨h1, rfl⟩
    exact ⟨none, 0, h1, .inl rfl, Below.refl _ _⟩
theorem proofR_two : Calls Tryd.prog 13 #[.slice oa n c, .int .i64 i] w (TwoP w (prL l i)) := by
  unfold prL
  split
  · rename_i h
    obtain ⟨k, rfl⟩ := Int.eq_ofNat_of_zero_le h.1
    obtain ⟨b, o, rfl, hb⟩ := hr.some (by omega)
    refine (refProof_any n l b o n c k w (by omega) hn hc hcm hx (by omega) hs hb).mono ?_
    rintro e w' ⟨oa, cap, h1, h2, h3⟩
    exact ⟨oa, cap, h1, rds_own h2, h3⟩
  · rename_i h
    refine (refProof_bad oa n c i w (by omega)).mono ?_
    rintro e w' ⟨h1, rfl⟩
    exact ⟨none, 0, h1, .inl rfl, Below.refl _ _⟩
theorem extG_two (ht : TabAt w) : Calls Tryd.prog 14 #[.slice oa n c, .int .i64 i] w (TwoP w (exL l i)) := by
  unfold exL
  split
  · rename_i h
    obtain ⟨k, rfl⟩ := Int.eq_ofNat_of_zero_le h.1
    refine (ext_all l oa n c k w hn hc hcm (by omega) (by omega) (hs.mono (by decide)) hr ht).mono ?_
    rintro e w' ⟨oa, cap, h1, _, _, h2, h3⟩
    exact ⟨oa, cap, h1, h2, h3⟩
  · rename_i h
    refine (ext_out oa n c i w (by omega) (by omega)).mono ?_
    rintro e w' ⟨h1, rfl⟩
    exact ⟨none, 0, h1, .inl rfl, Below.refl _ _⟩
theorem extR_two : Calls Tryd.prog 15 #[.slice oa n c, .int .i64 i] w (TwoP w (exL l i)) := by
  unfold exL
  split
  · rename_i h
    obtain ⟨k, rfl⟩ := Int.eq_ofNat_of_zero_le h.1
    by_cases h0 : k = 0
    · subst h0
      refine (refExtn_zero oa n c w).mono ?_
      rintro e w' ⟨h1, rfl⟩
      exact ⟨none, 0, h1, .inl rfl, Below.refl _ _⟩
    · obtain ⟨b, o, rfl, hb⟩ := hr.some (by omega)
      refine (refExtn_good l b o n c k w hn hc hcm hx (by omega) (by omega) hs hb).mono ?_
      have he : extP l (k : Int).toNat = extL l k true := by show extP l k = _; unfold extP; rw [if_neg h0]
      rw [he]
      rintro e w' ⟨oa, cap, h1, h2, h3⟩
      exact ⟨oa, cap, h1, rds_own h2, h3⟩
  · rename_i h
    refine (refExtn_bad oa n c i w (by omega)).mono ?_
    rintro e w' ⟨h1, rfl⟩
    exact ⟨none, 0, h1, .inl rfl, Below.refl _ _⟩
end
end Go.Proofs.YtggnldljfjhhcaaDoor
