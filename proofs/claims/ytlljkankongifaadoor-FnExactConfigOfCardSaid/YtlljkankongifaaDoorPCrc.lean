/- Checksums and sealed texts: the reference and the program come to the same. For texts of at most 20000 bytes. -/
import Derived.Test.YtlljkankongifaaDoorPWordBytes
import Derived.Test.YtlljkankongifaaDoorPZeros
import Derived.Test.YtlljkankongifaaDoorPLoop
import Derived.Test.YtlljkankongifaaDoorPIn
namespace Go.Proofs.YtlljkankongifaaDoor.Abs.Pu
open Go Go.RowKit
set_option linter.unusedVariables false
set_option linter.unusedSectionVars false
set_option linter.unusedSimpArgs false
def U32 (c : Int) : Prop := 0 ≤ c ∧ c < 4294967296
theorem wrap_u32 (x : Int) : IntKind.u32.wrap x = x % 4294967296 := by simp [IntKind.wrap, IntKind.bits, IntKind.signed]
theorem xor32_range (x y : Int) : U32 (xorA .u32 x y) := by
  unfold xorA U32
  rw [wrap_u32]
  omega
theorem u64_id' {x : Int} (h : U32 x) : IntKind.u64.wrap x = x := by
  rw [wrap_u64]
  unfold U32 at h
  omega
def crcBit (c : Int) : Int := if c % 2 = 1 then xorA .u32 (shrA .u32 c 1) 3988292384 else shrA .u32 c 1
theorem shr1_u32 (x : Int) : shrA .u32 x 1 = x / 2 := rfl
theorem crcBit_range {c : Int} (h : U32 c) : U32 (crcBit c) := by
  unfold crcBit
  split
  · exact xor32_range _ _
  · rw [shr1_u32]
    unfold U32 at h ⊢
    omega
theorem wraps_u32 (n : Int) (h0 : 0 ≤ n) (h1 : n < 2 ^ 32) : IntKind.u32.wrap n = n := by
  have e : (2 : Int) ^ 32 = 4294967296 := by decide
  rw [e] at h1
  rw [wrap_u32]
  omega
theorem and1_u32 {x : Int} (h : U32 x) : andA .u32 x 1 = x % 2 := by
  have e : (2 : Int) ^ 32 = 4294967296 := by decide
  have h2 := h.2
  have h := Go.bits_mask .u32 32 (by decide) wraps_u32 1 (by decide) x h.1 (by rw [e]; exact h2)
  simpa [andA_eq] using h
def crcIt : Nat → Int → Int
  | 0, c => c
  | n + 1, c => crcIt n (crcBit c)
theorem crcIt_range : ∀ (n : Nat) {c : Int}, U32 c → U32 (crcIt n c)
  | 0, _, h => h
  | n + 1, _, h => crcIt_range n (crcBit_range h)
def crcFrom (s : ByteArray) : Nat → Nat → Int → Int
  | 0, _, c => c
  | d + 1, i, c => crcFrom s d (i + 1) (crcIt 8 (xorA .u32 c (IntKind.wrap .u32 (bt s (i : Int)))))
theorem crcFrom_range (s : ByteArray) : ∀ (d i : Nat) {c : Int}, U32 c → U32 (crcFrom s d i c)
  | 0, _, _, h => h
  | d + 1, i, c, h => crcFrom_range s d (i + 1) (crcIt_range 8 (xor32_range _ _))
def out4 (v : Int) : ByteArray := strOfNums [v / 16777216 % 256, v / 65536 % 256, v / 256 % 256, v % 256]
def crcB (s : ByteArray) : ByteArray := out4 (xorA .u32 4294967295 (crcFrom s s.size 0 4294967295))
theorem crcB_size (s : ByteArray) : (crcB s).size = 4 := strOfNums_size _
theorem U32_top : U32 4294967295 := by unfold U32; omega
theorem spec_l1Crc_ev (s : ByteArray) (hs : s.size ≤ 20000) : Ev (fun k => spec_l1Crc.f k s) (crcB s) := by
  have inner : ∀ (n j : Nat) (c : Int) (i : Nat) (r : ByteArray), j + n = 8 → U32 c → i ≤ 20000 → Ev (fun k => spec_l1Crc.p8 k s (crcIt n c) ((i + 1 : Nat) : Int)) r → Ev (fun k => spec_l1Crc.p22 k s c (i : Int) (j : Int)) r := by
    intro n
    induction n with
    | zero =>
      intro j c i r hj hc hi hr
      refine Ev.step (fun k => by rw [spec_l1Crc.p22]) ?_
      rw [w64s (i := i) (by omega)]
      exact Ev.neg (by omega) hr
    | succ n ih =>
      intro j c i r hj hc hi hr
      have nx := ih (j + 1) (crcBit c) i r (by omega) (crcBit_range hc) hi hr
      unfold crcBit at nx
      refine Ev.step (fun k => by rw [spec_l1Crc.p22]) ?_
      rw [w64s (i := j) (by omega), Int.tmod_eq_emod_of_nonneg hc.1]
      refine Ev.pos (by omega) ?_
      by_cases k : c % 2 = 1
      · rw [if_pos k] at nx
        exact Ev.pos k nx
      · rw [if_neg k] at nx
        exact Ev.neg k nx
  have outer : ∀ (d i : Nat) (c : Int), i + d = s.size → U32 c → Ev (fun k => spec_l1Crc.p8 k s c (i : Int)) (out4 (xorA .u32 4294967295 (crcFrom s d i c))) := by
    intro d
    induction d with
    | zero =>
      intro i c hi hc
      refine Ev.step (fun k => by rw [spec_l1Crc.p8]) ?_
      exact Ev.neg (by omega) (Ev.eq rfl)
    | succ d ih =>
      intro i c hi hc
      refine Ev.step (fun k => by rw [spec_l1Crc.p8]) ?_
      exact Ev.pos (by omega) (Ev.pos (by omega) (Ev.pos (by omega) (inner 8 0 _ i _ rfl (xor32_range _ _) (by omega) (ih (i + 1) _ (by omega) (crcIt_range 8 (xor32_range _ _))))))
  unfold spec_l1Crc.f
  exact outer s.size 0 4294967295 (by omega) U32_top
theorem bigBytes4_ev (v : Int) (h : U32 v) : Ev (fun k => impl_bigBytes.f k v 4) (out4 v) := by
  have s8 : ∀ x : Int, shrA .u64 x 8 = x / 256 := fun _ => rfl
  unfold impl_bigBytes.f
  have i0 : wrap64 ((0 : Int) + 1) = 1 := (w64 (by omega) (by omega)).trans (by decide)
  have i1 : wrap64 ((1 : Int) + 1) = 2 := (w64 (by omega) (by omega)).trans (by decide)
  have i2 : wrap64 ((2 : Int) + 1) = 3 := (w64 (by omega) (by omega)).trans (by decide)
  have i3 : wrap64 ((3 : Int) + 1) = 4 := (w64 (by omega) (by omega)).trans (by decide)
  have j4 : wrap64 ((4 : Int) - 1) = 3 := (w64 (by omega) (by omega)).trans (by decide)
  have j0 : wrap64 (wrap64 ((4 : Int) - 1) - 0) = 3 := by rw [j4]; exact (w64 (by omega) (by omega)).trans (by decide)
  have j1 : wrap64 (wrap64 ((4 : Int) - 1) - 1) = 2 := by rw [j4]; exact (w64 (by omega) (by omega)).trans (by decide)
  have j2 : wrap64 (wrap64 ((4 : Int) - 1) - 2) = 1 := by rw [j4]; exact (w64 (by omega) (by omega)).trans (by decide)
  have j3 : wrap64 (wrap64 ((4 : Int) - 1) - 3) = 0 := by rw [j4]; exact (w64 (by omega) (by omega)).trans (by decide)
  have z4 : List.replicate (Int.toNat 4) (0 : Int) = [0, 0, 0, 0] := rfl
  rw [z4]
  refine Ev.pos (by decide) (Ev.pos (by decide) ?_)
  refine Ev.step (fun k => by rw [impl_bigBytes.p8]) ?_
  rw [j0, i0]
  refine Ev.pos (by decide) (Ev.pos (by decide) (Ev.pos (by simp) ?_))
  refine Ev.step (fun k => by rw [impl_bigBytes.p8]) ?_
  rw [j1, i1]
  refine Ev.pos (by simp) (Ev.pos (by decide) (Ev.pos (by simp) ?_))
  refine Ev.step (fun k => by rw [impl_bigBytes.p8]) ?_
  rw [j2, i2]
  refine Ev.pos (by simp) (Ev.pos (by decide) (Ev.pos (by simp) ?_))
  refine Ev.step (fun k => by rw [impl_bigBytes.p8]) ?_
  rw [j3, i3]
  refine Ev.pos (by simp) (Ev.pos (by decide) (Ev.pos (by simp) ?_))
  refine Ev.step (fun k => by rw [impl_bigBytes.p8]) ?_
  refine Ev.neg (by simp) (Ev.eq ?_)
  rw [s8, s8, s8]
  show strOfNums [v / 256 / 256 / 256 % 256, v / 256 / 256 % 256, v / 256 % 256, v % 256] = out4 v
  unfold out4
  rw [show v / 256 / 256 / 256 = v / 16777216 from by omega, show v / 256 / 256 = v / 65536 from by omega]
theorem impl_Crc_ev (s : ByteArray) (hs : s.size ≤ 20000) : Ev (fun k => impl_Crc.f k s) (crcB s) := by
  have inner : ∀ (n j : Nat) (c : Int) (i : Nat) (r : ByteArray), j + n = 8 → U32 c → i ≤ 20000 → Ev (fun k => impl_Crc.p16 k s (crcIt n c) (s.size : Int) ((i + 1 : Nat) : Int)) r → Ev (fun k => impl_Crc.p32 k s c (s.size : Int) (i : Int) (j : Int)) r := by
    intro n
    induction n with
    | zero =>
      intro j c i r hj hc hi hr
      refine Ev.step (fun k => by rw [impl_Crc.p32]) ?_
      rw [w64s (i := i) (by omega)]
      exact Ev.neg (by omega) hr
    | succ n ih =>
      intro j c i r hj hc hi hr
      have nx := ih (j + 1) (crcBit c) i r (by omega) (crcBit_range hc) hi hr
      unfold crcBit at nx
      refine Ev.step (fun k => by rw [impl_Crc.p32]) ?_
      rw [w64s (i := j) (by omega), and1_u32 hc]
      refine Ev.pos (by omega) ?_
      by_cases k : c % 2 = 1
      · rw [if_pos k] at nx
        exact Ev.pos k nx
      · rw [if_neg k] at nx
        exact Ev.neg k nx
  have outer : ∀ (d i : Nat) (c : Int), i + d = s.size → U32 c → Ev (fun k => impl_Crc.p16 k s c (s.size : Int) (i : Int)) (out4 (xorA .u32 4294967295 (crcFrom s d i c))) := by
    intro d
    induction d with
    | zero =>
      intro i c hi hc
      have hx := xor32_range 4294967295 c
      refine Ev.step (fun k => by rw [impl_Crc.p16]) ?_
      rw [u64_id' hx]
      exact Ev.neg (by omega) (Ev.bind (bigBytes4_ev _ hx) (Ev.eq rfl))
    | succ d ih =>
      intro i c hi hc
      refine Ev.step (fun k => by rw [impl_Crc.p16]) ?_
      exact Ev.pos (by omega) (Ev.pos (by omega) (Ev.pos (by omega) (inner 8 0 _ i _ rfl (xor32_range _ _) (by omega) (ih (i + 1) _ (by omega) (crcIt_range 8 (xor32_range _ _))))))
  unfold impl_Crc.f
  exact Ev.neg (by omega) (outer s.size 0 4294967295 (by omega) U32_top)
def sealT (s : ByteArray) : ByteArray := s ++ zerosB (60 - s.size)
def sealR (s : ByteArray) : ByteArray := sealT s ++ crcB (sealT s)
theorem sealT_size {s : ByteArray} (h : s.size ≤ 60) : (sealT s).size = 60 := by
  unfold sealT
  rw [ByteArray.size_append, zerosB_size]
  omega
theorem sealR_size {s : ByteArray} (h : s.size ≤ 60) : (sealR s).size = 64 := by
  unfold sealR
  rw [ByteArray.size_append, crcB_size, sealT_size h]
theorem spec_Sealed_ev (s : ByteArray) (h : s.size ≤ 60) : Ev (fun k => spec_Sealed.f k s) (sealR s) := by
  have hz := spec_l1Zeros_f (60 - s.size) (by omega)
  have hs := zerosB_size (60 - s.size)
  have ht := sealT_size h
  unfold spec_Sealed.f
  rw [w64 (x := 60 - (s.size : Int)) (by omega) (by omega), show 60 - (s.size : Int) = ((60 - s.size : Nat) : Int) from by omega]
  refine Ev.neg (by omega) (Ev.bindo hz (Ev.pos (by omega) ?_))
  have hc := spec_l1Crc_ev (sealT s) (by omega)
  have hcs := crcB_size (sealT s)
  unfold sealT at hc ht hcs
  exact Ev.bind hc (Ev.pos (by rw [ht, hcs]; omega) (Ev.eq rfl))
theorem impl_Sealed_ev (s : ByteArray) (h : s.size ≤ 60) : Ev (fun k => impl_Sealed.f k s) (sealR s) := by
  have hz := impl_zeros_f (60 - s.size) (by omega)
  have hs := zerosB_size (60 - s.size)
  have ht := sealT_size h
  unfold impl_Sealed.f
  rw [w64 (x := 60 - (s.size : Int)) (by omega) (by omega), show 60 - (s.size : Int) = ((60 - s.size : Nat) : Int) from by omega]
  refine Ev.neg (by omega) (Ev.bindo hz (Ev.pos (by omega) ?_))
  have hc := impl_Crc_ev (sealT s) (by omega)
  have hcs := crcB_size (sealT s)
  unfold sealT at hc ht hcs
  exact Ev.bind hc (Ev.pos (by rw [ht, hcs]; omega) (Ev.eq rfl))
end Go.Proofs.YtlljkankongifaaDoor.Abs.Pu
