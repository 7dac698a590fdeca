/-
  The digests of some fixed strings, evaluated by the kernel block by block. No program in sight.
  The digests that the fixed calls of package asrun's laws need, evaluated by the kernel. No program in sight.
  Plain facts for sane of the laws of package asrun.
-/
import Derived.KernelRfl
import Derived.Test.YtfpcdlpfmlaakaaGreatDoorPlD
import Derived.Test.YtfpcdlpfmlaakaaGreatDoorDkB
import Derived.Test.YtfpcdlpfmlaakaaGreatDoorDgN
import Derived.Test.YtfpcdlpfmlaakaaGreatDoorWaA
import Derived.Test.YtfpcdlpfmlaakaaGreatDoorPlA
set_option linter.unusedVariables false
set_option linter.unusedSimpArgs false
namespace Onair
def force {α : Type} (x : Nat) (k : Nat → α) : α :=
  match x with
  | 0 => k 0
  | n + 1 => k (Nat.succ n)
theorem force_eq {α : Type} (x : Nat) (k : Nat → α) : force x k = k x := by cases x <;> rfl
def forceL {α : Type} : List Nat → (List Nat → α) → α
  | [], k => k []
  | x :: r, k => force x fun y => forceL r fun ys => k (y :: ys)
theorem forceL_eq {α : Type} : ∀ (l : List Nat) (k : List Nat → α), forceL l k = k l
  | [], k => rfl
  | x :: r, k => by rw [forceL, force_eq, forceL_eq r]
def nextR (r : List Nat) : Nat := add32 (add32 (add32 (r.getD 15 0) (sig0 (r.getD 14 0))) (r.getD 6 0)) (sig1 (r.getD 1 0))
def schedF : Nat → List Nat → List Nat
  | 0, r => r.reverse
  | n + 1, r => force (nextR r) fun x => schedF n (x :: r)
theorem rev_get (ws : List Nat) (i j : Nat) (h : i + j + 1 = ws.length) : ws.reverse.getD i 0 = wAt ws j := by
  unfold wAt
  rw [List.getD_eq_getElem?_getD, List.getD_eq_getElem?_getD, List.getElem?_reverse (by omega)]
  congr 2
  omega
theorem nextR_eq (ws : List Nat) (h : 16 ≤ ws.length) : nextR ws.reverse = nextW ws := by
  unfold nextR nextW
  rw [rev_get ws 15 (ws.length - 16) (by omega), rev_get ws 14 (ws.length - 15) (by omega), rev_get ws 6 (ws.length - 7) (by omega), rev_get ws 1 (ws.length - 2) (by omega)]
theorem schedF_eq (bs : List UInt8) : ∀ (n m : Nat), schedF n (schedN bs m).reverse = schedN bs (m + n)
  | 0, m => by rw [schedF, List.reverse_reverse]; rfl
  | n + 1, m => by
    rw [schedF, force_eq, nextR_eq _ (by rw [schedN_len]; omega)]
    have := schedF_eq bs n (m + 1)
    rw [show schedN bs (m + 1) = schedN bs m ++ [nextW (schedN bs m)] from rfl, List.reverse_append, List.reverse_singleton, List.singleton_append] at this
    rw [this, show m + 1 + n = m + (n + 1) by omega]
def foldR {σ : Type} (f : σ → Nat → Nat → σ) (ks ws : List Nat) (s : σ) : σ := (ks.zip ws).foldl (fun s p => f s p.1 p.2) s
theorem foldR_cons {σ : Type} (f : σ → Nat → Nat → σ) (k w : Nat) (ks ws : List Nat) (s : σ) : foldR f (k :: ks) (w :: ws) s = foldR f ks ws (f s k w) := rfl
theorem foldR_snoc {σ : Type} (f : σ → Nat → Nat → σ) (k w : Nat) (ks ws : List Nat) (s : σ) (h : ks.length = ws.length) : foldR f (ks ++ [k]) (ws ++ [w]) s = f (foldR f ks ws s) k w := by
  unfold foldR
  rw [List.zip_append h, List.foldl_append]
  rfl
theorem foldR_eq {σ : Type} (f : σ → Nat → Nat → σ) (K : List Nat) (ws : List Nat) (g : Nat → σ) (hK : K.length = 64) (hw : ws.length = 64) (hg : ∀ n, g (n + 1) = f (g n) (K.getD n 0) (ws.getD n 0)) : ∀ (n : Nat), n ≤ 64 → foldR f (K.take n) (ws.take n) (g 0) = g n
  | 0, _ => rfl
  | n + 1, h => by
    rw [List.take_succ_eq_append_getElem (by omega), List.take_succ_eq_append_getElem (by omega), foldR_snoc _ _ _ _ _ _ (by rw [List.length_take, List.length_take]; omega), foldR_eq f K ws g hK hw hg n (by omega), hg,
      List.getD_eq_getElem?_getD, List.getD_eq_getElem?_getD, List.getElem?_eq_getElem (by omega), List.getElem?_eq_getElem (by omega)]
    rfl
def foldK {σ α : Type} (step : σ → Nat → Nat → (σ → α) → α) : List Nat → List Nat → σ → (σ → α) → α
  | k :: ks, w :: ws, s, K => step s k w fun t => foldK step ks ws t K
  | [], _, s, K => K s
  | _ :: _, [], s, K => K s
theorem foldK_eq {σ α : Type} (step : σ → Nat → Nat → (σ → α) → α) (f : σ → Nat → Nat → σ) (h : ∀ s k w K, step s k w K = K (f s k w)) : ∀ (ks ws : List Nat) (s : σ) (K : σ → α), foldK step ks ws s K = K (foldR f ks ws s)
  | k :: ks, w :: ws, s, K => by rw [foldK, h, foldK_eq step f h ks ws, foldR_cons]
  | [], _, s, K => by rw [foldK]; rfl
  | _ :: _, [], s, K => by rw [foldK]; rfl
def stepF {α : Type} (s : S8) (k w : Nat) (K : S8 → α) : α :=
  match s with
  | ⟨a, b, c, d, e, f, g, h⟩ => force (tOf ⟨a, b, c, d, e, f, g, h⟩ k w) fun t => force (add32 t (uOf ⟨a, b, c, d, e, f, g, h⟩)) fun a2 => force (add32 d t) fun e2 => K ⟨a2, a, b, c, e2, e, f, g⟩
theorem stepF_eq {α : Type} (s : S8) (k w : Nat) (K : S8 → α) : stepF s k w K = K (round8 s k w) := by
  cases s
  simp only [stepF]
  rw [force_eq, force_eq, force_eq]
  simp only [round8]
def comprF (s : S8) (bs : List UInt8) : List Nat :=
  forceL (words16 bs 16) fun w => foldK stepF shaK (schedF 48 w.reverse) s fun t => forceL (s.add t).list fun l => l
theorem comprF_eq (s : S8) (bs : List UInt8) : comprF s bs = (compr s bs).list := by
  unfold comprF compr
  rw [forceL_eq, foldK_eq stepF round8 stepF_eq, forceL_eq]
  have h := schedF_eq bs 48 0
  have h0 : schedN bs 0 = words16 bs 16 := rfl
  rw [h0, show 0 + 48 = 48 from rfl] at h
  rw [h]
  have hK : shaK.length = 64 := rfl
  have := foldR_eq round8 shaK (wexp bs) (rounds s (wexp bs)) hK (wexp_len bs) (fun n => rfl) 64 (Nat.le_refl _)
  rw [List.take_of_length_le (by rw [hK]; exact Nat.le_refl _), List.take_of_length_le (by rw [wexp_len]; exact Nat.le_refl _)] at this
  show (s.add (foldR round8 shaK (wexp bs) (rounds s (wexp bs) 0))).list = _
  rw [this]
theorem S8.of_list {s t : S8} (h : s.list = t.list) : s = t := by
  cases s; cases t
  simp [S8.list] at h
  simp [h]
theorem sha_step {l b : List UInt8} {k : Nat} {s t : S8} (h : shaS l k = s) (hb : blkAt l k = b) (hc : comprF s b = t.list) : shaS l (k + 1) = t := by
  show compr (shaS l k) (blkAt l k) = t
  rw [h, hb]
  exact S8.of_list ((comprF_eq s b).symm.trans hc)
theorem sha_end {l o : List UInt8} {n : Nat} {t : S8} (hn : nBlk l = n) (h : shaS l n = t) (ho : outL t.list 32 = o) : shaL l = o := by
  unfold shaL
  rw [hn, h, ho]
set_option maxRecDepth 100000
theorem shaB_of {l o : List UInt8} (h : shaL l = o) : shaB ⟨l.toArray⟩ = ⟨o.toArray⟩ := by show (⟨(shaL l).toArray⟩ : ByteArray) = _; rw [h]
end Onair
namespace Go.Proofs.YtfpcdlpfmlaakaaGreatDoor
open Go.RowKit Onair
set_option maxRecDepth 100000
theorem saC_0 : shaS ([2, 0, 0, 0, 0, 0, 0, 0, 0, 0, 0, 0, 0, 0, 0, 0, 0, 0, 0, 0, 0, 0, 0, 0, 0, 0, 0, 0, 0, 0, 0, 0, 0, 0, 0, 0, 2, 0, 0] : List UInt8) 1 = ⟨1919465594, 3267874563, 40458441, 1719475164, 2656222740, 3849118983, 319403937, 238490817⟩ := sha_step (s := ⟨1779033703, 3144134277, 1013904242, 2773480762, 1359893119, 2600822924, 528734635, 1541459225⟩) (b := [2, 0, 0, 0, 0, 0, 0, 0, 0, 0, 0, 0, 0, 0, 0, 0, 0, 0, 0, 0, 0, 0, 0, 0, 0, 0, 0, 0, 0, 0, 0, 0, 0, 0, 0, 0, 2, 0, 0, 128, 0, 0, 0, 0, 0, 0, 0, 0, 0, 0, 0, 0, 0, 0, 0, 0, 0, 0, 0, 0, 0, 0, 1, 56]) rfl (by kernel_rfl) (by kernel_rfl)
theorem saC : shaL ([2, 0, 0, 0, 0, 0, 0, 0, 0, 0, 0, 0, 0, 0, 0, 0, 0, 0, 0, 0, 0, 0, 0, 0, 0, 0, 0, 0, 0, 0, 0, 0, 0, 0, 0, 0, 2, 0, 0] : List UInt8) = [114, 104, 184, 122, 194, 199, 207, 3, 2, 105, 88, 201, 102, 125, 27, 220, 158, 82, 190, 20, 229, 108, 229, 7, 19, 9, 183, 161, 14, 55, 20, 193] := sha_end (n := 1) (by kernel_rfl) saC_0 (by kernel_rfl)
theorem saS_0 : shaS ([115, 97, 108, 116, 114, 104, 184, 122, 194, 199, 207, 3, 2, 105, 88, 201, 102, 125, 27, 220, 158, 82, 190, 20, 229, 108, 229, 7, 19, 9, 183, 161, 14, 55, 20, 193] : List UInt8) 1 = ⟨1021460674, 2075974178, 2498286581, 3036680065, 598522087, 1360401850, 530703361, 4273969338⟩ := sha_step (s := ⟨1779033703, 3144134277, 1013904242, 2773480762, 1359893119, 2600822924, 528734635, 1541459225⟩) (b := [115, 97, 108, 116, 114, 104, 184, 122, 194, 199, 207, 3, 2, 105, 88, 201, 102, 125, 27, 220, 158, 82, 190, 20, 229, 108, 229, 7, 19, 9, 183, 161, 14, 55, 20, 193, 128, 0, 0, 0, 0, 0, 0, 0, 0, 0, 0, 0, 0, 0, 0, 0, 0, 0, 0, 0, 0, 0, 0, 0, 0, 0, 1, 32]) rfl (by kernel_rfl) (by kernel_rfl)
theorem saS : shaL ([115, 97, 108, 116, 114, 104, 184, 122, 194, 199, 207, 3, 2, 105, 88, 201, 102, 125, 27, 220, 158, 82, 190, 20, 229, 108, 229, 7, 19, 9, 183, 161, 14, 55, 20, 193] : List UInt8) = [60, 226, 64, 194, 123, 188, 218, 34, 148, 232, 211, 245, 181, 0, 15, 129, 35, 172, 184, 231, 81, 22, 21, 186, 31, 161, 228, 1, 254, 191, 152, 186] := sha_end (n := 1) (by kernel_rfl) saS_0 (by kernel_rfl)
theorem saL_0 : shaS ([0, 60, 226, 64, 194, 123, 188, 218, 34, 148, 232, 211, 245, 181, 0, 15, 129, 35, 172, 184, 231, 81, 22, 21, 186, 31, 161, 228, 1, 254, 191, 152, 186, 0, 0, 0, 2, 0, 0] : List UInt8) 1 = ⟨1305806901, 2057419985, 4077134461, 3993304365, 1713708391, 3642696717, 2618012889, 4237042715⟩ := sha_step (s := ⟨1779033703, 3144134277, 1013904242, 2773480762, 1359893119, 2600822924, 528734635, 1541459225⟩) (b := [0, 60, 226, 64, 194, 123, 188, 218, 34, 148, 232, 211, 245, 181, 0, 15, 129, 35, 172, 184, 231, 81, 22, 21, 186, 31, 161, 228, 1, 254, 191, 152, 186, 0, 0, 0, 2, 0, 0, 128, 0, 0, 0, 0, 0, 0, 0, 0, 0, 0, 0, 0, 0, 0, 0, 0, 0, 0, 0, 0, 0, 0, 1, 56]) rfl (by kernel_rfl) (by kernel_rfl)
theorem saL : shaL ([0, 60, 226, 64, 194, 123, 188, 218, 34, 148, 232, 211, 245, 181, 0, 15, 129, 35, 172, 184, 231, 81, 22, 21, 186, 31, 161, 228, 1, 254, 191, 152, 186, 0, 0, 0, 2, 0, 0] : List UInt8) = [77, 213, 8, 53, 122, 161, 188, 209, 243, 4, 34, 125, 238, 4, 253, 45, 102, 37, 29, 103, 217, 31, 36, 13, 156, 11, 180, 217, 252, 140, 36, 27] := sha_end (n := 1) (by kernel_rfl) saL_0 (by kernel_rfl)
theorem saM_0 : shaS ([0, 60, 226, 64, 194, 123, 188, 218, 34, 148, 232, 211, 245, 181, 0, 15, 129, 35, 172, 184, 231, 81, 22, 21, 186, 31, 161, 228, 1, 254, 191, 152, 186, 0, 0, 0, 2, 2, 0] : List UInt8) 1 = ⟨4283015611, 1590609905, 2135971746, 1631547196, 1905108054, 3039658171, 1726707863, 683759362⟩ := sha_step (s := ⟨1779033703, 3144134277, 1013904242, 2773480762, 1359893119, 2600822924, 528734635, 1541459225⟩) (b := [0, 60, 226, 64, 194, 123, 188, 218, 34, 148, 232, 211, 245, 181, 0, 15, 129, 35, 172, 184, 231, 81, 22, 21, 186, 31, 161, 228, 1, 254, 191, 152, 186, 0, 0, 0, 2, 2, 0, 128, 0, 0, 0, 0, 0, 0, 0, 0, 0, 0, 0, 0, 0, 0, 0, 0, 0, 0, 0, 0, 0, 0, 1, 56]) rfl (by kernel_rfl) (by kernel_rfl)
theorem saM : shaL ([0, 60, 226, 64, 194, 123, 188, 218, 34, 148, 232, 211, 245, 181, 0, 15, 129, 35, 172, 184, 231, 81, 22, 21, 186, 31, 161, 228, 1, 254, 191, 152, 186, 0, 0, 0, 2, 2, 0] : List UInt8) = [255, 73, 161, 187, 94, 206, 199, 241, 127, 80, 87, 162, 97, 63, 111, 60, 113, 141, 164, 86, 181, 45, 128, 187, 102, 235, 120, 151, 40, 193, 87, 2] := sha_end (n := 1) (by kernel_rfl) saM_0 (by kernel_rfl)
def saH : ByteArray := ⟨#[114, 104, 184, 122, 194, 199, 207, 3, 2, 105, 88, 201, 102, 125, 27, 220, 158, 82, 190, 20, 229, 108, 229, 7, 19, 9, 183, 161, 14, 55, 20, 193]⟩
def saT : ByteArray := ⟨#[60, 226, 64, 194, 123, 188, 218, 34, 148, 232, 211, 245, 181, 0, 15, 129, 35, 172, 184, 231, 81, 22, 21, 186, 31, 161, 228, 1, 254, 191, 152, 186]⟩
def saR : ByteArray := ⟨#[77, 213, 8, 53, 122, 161, 188, 209, 243, 4, 34, 125, 238, 4, 253, 45, 102, 37, 29, 103, 217, 31, 36, 13, 156, 11, 180, 217, 252, 140, 36, 27]⟩
def saX : Rec := ⟨0, 0, 0, 1, 0, 0⟩
def saY : Rec := ⟨0, 0, 0, 1, 1, 0⟩
theorem sa_enc1 : encB saX = ⟨#[0, 0, 0, 2, 0, 0]⟩ := by kernel_rfl
theorem sa_enc2 : encB saY = ⟨#[0, 0, 0, 2, 2, 0]⟩ := by kernel_rfl
theorem sa_head : headR [saX] = saH := by
  show chainB zero32 (encB saX) = _
  rw [sa_enc1]
  exact shaB_of saC
theorem sa_salt : shaB ⟨([115, 97, 108, 116] ++ saH.data.toList).toArray⟩ = saT := shaB_of saS
theorem sa_ent : entR [saX] = [saT ++ encB saX] := by
  show [entB (headR [saX]) (encB saX)] = _
  rw [sa_head]
  unfold entB
  rw [sa_salt]
theorem sa_leaf1 : leafB (saT ++ encB saX) = saR := by
  rw [sa_enc1]
  exact shaB_of saL
theorem sa_leaf2 : leafB (saT ++ encB saY) = ⟨#[255, 73, 161, 187, 94, 206, 199, 241, 127, 80, 87, 162, 97, 63, 111, 60, 113, 141, 164, 86, 181, 45, 128, 187, 102, 235, 120, 151, 40, 193, 87, 2]⟩ := by
  rw [sa_enc2]
  exact shaB_of saM
theorem sa_root : rootL (entR [saX]) = saR := by
  rw [sa_ent, ← sa_leaf1]
  rfl
theorem sa_ver1 : verA saR saX 0 1 saT [] = true := by
  unfold verA verI verB
  rw [show (valR ([] : List ByteArray).reverse (1 : Int).toNat (0 : Int).toNat (saT ++ encB saX)) = (leafB (saT ++ encB saX), true) from rfl, sa_leaf1, decide_eq_true (show (saR, true).1 = saR from rfl)]
  rfl
theorem sa_ver2 : verA saR saY 0 1 saT [] = false := by
  unfold verA verI verB
  rw [show (valR ([] : List ByteArray).reverse (1 : Int).toNat (0 : Int).toNat (saT ++ encB saY)) = (leafB (saT ++ encB saY), true) from rfl, sa_leaf2, decide_eq_false (show ¬ ((⟨#[255, 73, 161, 187, 94, 206, 199, 241, 127, 80, 87, 162, 97, 63, 111, 60, 113, 141, 164, 86, 181, 45, 128, 187, 102, 235, 120, 151, 40, 193, 87, 2]⟩ : ByteArray), true).1 = saR from by decide)]
  simp
end Go.Proofs.YtfpcdlpfmlaakaaGreatDoor
namespace Go.Proofs.YtfpcdlpfmlaakaaGreatDoor
open Go.RowKit Onair
theorem sa_put : (putSL (encL saX)).length = 7 := by kernel_rfl
theorem sa_end : endN [saX] = 40 := by
  show (storedL zero32 saX ++ logL (chainB zero32 (encB saX)) []).length = 40
  show (1 :: (putSL (encL saX) ++ (chainB zero32 (encB saX)).data.toList) ++ []).length = 40
  rw [List.append_nil, List.length_cons, List.length_append, sa_put]
  have : (chainB zero32 (encB saX)).data.toList.length = 32 := by
    rw [len_data]
    exact shaB_size _
  rw [this]
theorem sa_app1 : ∃ D1, appC ⟨newD 200, [], false⟩ [saX] = (0, ⟨D1, [saX], false⟩) ∧ Cln D1 [saX] ∧ D1.vis.length = 200 := by
  have hv : (newD 200).vis.length = 200 := zeroL_len 200
  have ha : allV [saX] = true := by decide
  rcases (Cln.new 200).app [saX] with ⟨h, _⟩ | ⟨_, h, _⟩ | ⟨_, _, D1, h1, h2, h3⟩
  · rw [ha] at h; cases h
  · have e := endN_append [] [saX]
    rw [List.nil_append, sa_end] at e
    rw [hv] at h
    omega
  · exact ⟨D1, h1, h2, h3.trans hv⟩
theorem sa_app2 (s : LS) : appC s [rec0] = (250, s) := by
  unfold appC
  rw [if_pos (Or.inr (by decide))]
theorem sa_ext1 : extendL [] 0 1 5 7 3 = [⟨0, 1, 5, 1, 7, 3⟩] := by kernel_rfl
theorem sa_ext2 : extendL [⟨0, 1, 5, 1, 7, 3⟩] 0 1 6 7 4 = [⟨0, 1, 5, 2, 7, 3⟩] := by kernel_rfl
theorem sa_ext3 : extendL [⟨0, 1, 5, 1, 7, 3⟩] 0 1 6 7 5 = [⟨0, 1, 5, 1, 7, 3⟩, ⟨0, 1, 6, 1, 7, 5⟩] := by kernel_rfl
end Go.Proofs.YtfpcdlpfmlaakaaGreatDoor
