/-
  Blocks of bytes that a call made itself; the checksum of what lies in one, in a region that draws its order.
-/
import Derived.WalkKit
import Derived.OwnWalk
import Derived.Deep.QuietTactic
import Derived.BigQuiet
import Derived.Laws.BitsAllLaws
import Derived.Laws.OwnMore
import Derived.Laws.IdiomStrings
import Derived.Lib.Hide
import Derived.IntWalk
import Derived.Test.YthmdiminiolipaaDoorWireWalksC
import Derived.Test.YthmdiminiolipaaDoorWireCrc
import Derived.Test.YthmdiminiolipaaDoorUtil
set_option linter.unusedVariables false
set_option linter.unusedSimpArgs false
namespace Go.Proofs.YthmdiminiolipaaDoor
open Go.RowKit Onair
theorem Tryd.infoU8 : (Tryd.prog.info? 5).map (fun i => (i.zero, i.size, i.bytes)) = some (some (.int .u8 0), 1, 1) := by kernel_rfl
/-- The cells of block B hold the bytes l; none is frozen. -/
def BytesIn (W : World) (B : Nat) (l : List UInt8) : Prop := (∀ j, j < l.length → W.cell? ⟨B, j, none⟩ = some (.int .u8 ((l[j]?.getD 0).toNat : Int))) ∧ (∀ j, j < l.length → W.frozen? ⟨B, j, none⟩ = false)
theorem bytesIn_set {W : World} {B : Nat} {l : List UInt8} (h : BytesIn W B l) (k : Nat) (hk : k < l.length) (b : UInt8) : BytesIn (W.setCell ⟨B, k, none⟩ (.int .u8 (b.toNat : Int))) B (l.set k b) := by
  refine ⟨fun j hj => ?_, fun j hj => by rw [World.frozen?_setCell]; exact h.2 j (by simpa using hj)⟩
  rw [List.length_set] at hj
  by_cases e : j = k
  · subst e
    rw [World.cell?_setCell_same' _ _ _ (by rw [h.1 _ hj]; rfl)]
    simp [hj]
  · rw [World.cell?_setCell_other _ _ _ _ (by intro h'; cases h'; exact e rfl), h.1 j hj, List.getElem?_set_ne (by omega)]
theorem bytesIn_drew {W : World} {B : Nat} {l : List UInt8} (h : BytesIn W B l) : BytesIn W.drew B l := h
theorem conv_bytesIn {W : World} {B : Nat} {l : List UInt8} (h : BytesIn W B l) (n cap : Nat) (hn : l.length = n) : (convert 38 9 (.slice (some ⟨B, 0, none⟩) n cap)).run Tryd.prog W = .ok (.string ⟨l.toArray⟩) W := by
  have := run_convert_bytes_back (P := Tryd.prog) W 38 9 5 ⟨B, 0, none⟩ cap l Tryd.underlying38 Tryd.underlying5 Tryd.underlying9 (fun j hj => by
    have h' := h.1 j hj
    rw [List.getElem?_eq_getElem hj] at h'
    rw [show ((⟨B, 0, none⟩ : Addr).add j) = ⟨B, j, none⟩ from by unfold Addr.add; split <;> simp_all]
    simpa using h')
  rw [hn] at this
  exact this
theorem made0 (n j : Nat) (h : j < n) : (madeCells (Value.int .u8 0).cells (n * 1)).toList[j]? = some (.int .u8 0) := by
  simp [madeCells, Value.cells, h, Nat.mod_one]
theorem getL (s : ByteArray) (k : Nat) (h : k < s.size) : s.data.toList[k]?.getD 0 = s[k] := by
  rw [List.getElem?_eq_getElem (by simpa using h)]; rfl
theorem i64_xor_nat (a b c : Nat) (ha : a < 4294967296) (hb : b < 4294967296) (h : a ^^^ b = c) : bits .xor .i64 (a : Int) (b : Int) = (c : Int) := by
  have ha' : a % 2 ^ IntKind.i64.bits = a := Nat.mod_eq_of_lt (by show a < 18446744073709551616; omega)
  have hb' : b % 2 ^ IntKind.i64.bits = b := Nat.mod_eq_of_lt (by show b < 18446744073709551616; omega)
  simp only [bits, BitVec.ofInt_natCast, BitVec.toNat_xor, BitVec.toNat_ofNat, ha', hb']
  have := xor_lt32 ha hb
  rw [IntWalk.i64_in _ (by omega), h]
theorem sum_q (s : ByteArray) (w : World) (n : Nat) (v : Int) (hs : s.size ≤ 1000) (ht : TabAt w) (hv : sumL s.data.toList = v) :
    Calls Tryd.prog 21 #[.string s] (w.drewN n) fun e w' => e = .returned (.int .i64 v) ∧ ∃ m, w' = w.drewN m := by
  rw [← hv]
  exact Calls.quiet_of_same ((sum_any s (w.drewN n) (small_len _ (by omega)) (fun i hi => by have := ht i hi; simpa using this)).mono fun _ _ ⟨a, b⟩ => ⟨a, b.symm⟩)
theorem conv_q {W : World} {B : Nat} {l : List UInt8} (h : BytesIn W B l) (n cap : Nat) (hn : l.length = n) (q : Nat) : (convert 38 9 (.slice (some ⟨B, 0, none⟩) n cap)).run Tryd.prog (W.drewN q) = .ok (.string ⟨l.toArray⟩) (W.drewN q) :=
  conv_bytesIn (W := W.drewN q) ⟨fun j hj => by have := h.1 j hj; simpa using this, fun j hj => by have := h.2 j hj; simpa using this⟩ n cap hn
/-- '[]byte(s)': a new block of the bytes of s. -/
theorem conv_string_bytes (w : World) (s : ByteArray) : ∃ (cap : Nat) (w' : World), (convert 9 38 (.string s)).run Tryd.prog w = .ok (.slice (some ⟨w.heap.size, 0, none⟩) s.size cap) w' ∧ s.size ≤ cap ∧ BytesIn w' w.heap.size s.data.toList ∧ Below w.heap.size w w' := by
  refine ⟨_, _, run_bytes_of_string w 9 38 5 s Tryd.underlying9 Tryd.underlying38 Tryd.underlying5, grownCap_ge _ _ _ _, ⟨fun j hj => ?_, fun j hj => ?_⟩, (Below.refl _ w).drew.alloc (Nat.le_refl _) _⟩
  · have hj' : j < s.data.size := by simpa using hj
    have h := bytesRow_at s (grownCap w s.size 0 5) j hj'
    have hb : (w.drew.alloc (.cells (bytesRow s (grownCap w s.size 0 5)) 5 ((bytesRow s (grownCap w s.size 0 5)).size, (bytesRow s (grownCap w s.size 0 5)).size + 1))).heap[w.heap.size]? = some (.cells (bytesRow s (grownCap w s.size 0 5)) 5 ((bytesRow s (grownCap w s.size 0 5)).size, (bytesRow s (grownCap w s.size 0 5)).size + 1)) := by
      show (w.heap.push _)[w.heap.size]? = _
      simp
    unfold World.cell?
    simp only [hb]
    rw [List.getElem?_eq_getElem hj]
    simp only [Option.getD_some]
    simpa using h
  · have hb : (w.drew.alloc (.cells (bytesRow s (grownCap w s.size 0 5)) 5 ((bytesRow s (grownCap w s.size 0 5)).size, (bytesRow s (grownCap w s.size 0 5)).size + 1))).heap[w.heap.size]? = some (.cells (bytesRow s (grownCap w s.size 0 5)) 5 ((bytesRow s (grownCap w s.size 0 5)).size, (bytesRow s (grownCap w s.size 0 5)).size + 1)) := by
      show (w.heap.push _)[w.heap.size]? = _
      simp
    have hz : s.size ≤ (bytesRow s (grownCap w s.size 0 5)).size := by unfold bytesRow; simp
    unfold World.frozen?
    simp only [hb]
    rw [len_data] at hj
    simp
    intro h
    omega
end Go.Proofs.YthmdiminiolipaaDoor
