/- What the object at a line of an image comes to: no program in sight. No condition. -/
import Derived.Test.YtlljkankongifaaDoorPReadR
import Derived.Test.YtlljkankongifaaDoorPImage
namespace Go.Proofs.YtlljkankongifaaDoor.Abs.Pu
open Go Go.RowKit
set_option linter.unusedVariables false
set_option linter.unusedSectionVars false
set_option linter.unusedSimpArgs false
def typeAt (image : ByteArray) (line : Int) : Int := wordv image (64 * line.toNat) - 1
def partAt (c : Cfg) (image : ByteArray) (line : Int) : ByteArray := image.extract (64 * line.toNat) (64 * (line.toNat + runL c.2.2.2 (typeAt image line)))
def oldR (c : Cfg) (image : ByteArray) (line : Int) : (Int × List Int) × Bool :=
  if isDataB c line = true ∧ (0 ≤ typeAt image line ∧ typeAt image line < c.2.2.2.length) ∧ line + runL c.2.2.2 (typeAt image line) ≤ c.1 ∧ (readR c.2.2.2 (partAt c image line)).2 = true ∧ refsB (dataRefB c) (rdOf ByteArray.empty c.2.2.2 (readR c.2.2.2 (partAt c image line)).1.1) 0 (readR c.2.2.2 (partAt c image line)).1.2 = true
  then ((readR c.2.2.2 (partAt c image line)).1, true) else ((0, []), false)
theorem oldR_length (c : Cfg) (image : ByteArray) (line : Int) : (oldR c image line).1.2.length ≤ 23 := by
  unfold oldR
  split
  · exact readR_length _ _
  · exact Nat.zero_le _
theorem isDataB_facts {c : Cfg} {line : Int} (h : isDataB c line = true) : 4 + c.2.1 ≤ line ∧ line ≤ c.1 - 1 := by
  unfold isDataB at h
  simpa using h
/-- What is so of an object that is found. -/
theorem oldR_yes {c : Cfg} {image : ByteArray} {line : Int} (hc : configOk c = true) (hz : (image.size : Int) = 64 * c.1) (h : (oldR c image line).2 = true) :
    isDataB c line = true ∧ objOk8 c.2.2.2 (oldR c image line).1 = true ∧ line + runL c.2.2.2 (oldR c image line).1.1 ≤ c.1 ∧ refsB (dataRefB c) (rdOf ByteArray.empty c.2.2.2 (oldR c image line).1.1) 0 (oldR c image line).1.2 = true := by
  have hf := configOk_facts hc
  by_cases k : isDataB c line = true ∧ (0 ≤ typeAt image line ∧ typeAt image line < c.2.2.2.length) ∧ line + runL c.2.2.2 (typeAt image line) ≤ c.1 ∧ (readR c.2.2.2 (partAt c image line)).2 = true ∧ refsB (dataRefB c) (rdOf ByteArray.empty c.2.2.2 (readR c.2.2.2 (partAt c image line)).1.1) 0 (readR c.2.2.2 (partAt c image line)).1.2 = true
  · have e : oldR c image line = ((readR c.2.2.2 (partAt c image line)).1, true) := by unfold oldR; rw [if_pos k]
    rw [e]
    simp only []
    obtain ⟨k1, k2, k3, k4, k5⟩ := k
    obtain ⟨r1, r2, r3, r4, r5⟩ := readR_yes k4
    have hd := isDataB_facts k1
    have ht : typesOk c.2.2.2 = true := hf.2.2.2.2.2.2.2
    have hb := runL_bound ht (typeAt image line)
    have hw : wordv (partAt c image line) 0 = typeAt image line + 1 := by
      unfold partAt typeAt
      have e8 : (image.extract (64 * line.toNat) (64 * (line.toNat + runL c.2.2.2 (wordv image (64 * line.toNat) - 1)))) = image.extract (64 * line.toNat) (64 * (line.toNat + runL c.2.2.2 (typeAt image line))) := rfl
      rw [show wordv image (64 * line.toNat) - 1 + 1 = wordv image (64 * line.toNat) from by omega, e8]
      unfold wordv
      refine congrArg wrap64 (be_congr 8 (fun i hi => ?_))
      rw [Nat.zero_add]
      exact bt_extract image (64 * line.toNat) _ i (by omega) (by omega)
    have ht1 : (readO c.2.2.2 (partAt c image line)).1 = typeAt image line := by
      unfold readO
      simp only []
      rw [hw]; omega
    rw [r1] at k5 ⊢
    refine ⟨k1, r3, ?_, k5⟩
    rw [ht1]; exact k3
  · unfold oldR at h
    rw [if_neg k] at h
    cases h
end Go.Proofs.YtlljkankongifaaDoor.Abs.Pu
