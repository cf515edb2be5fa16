/- Zero bytes. At most a million of them. -/
import Derived.Test.YtlljkankongifaaDoorPTurn
import Derived.Test.YtlljkankongifaaDoorF3
namespace Go.Proofs.YtlljkankongifaaDoor.Abs.Pu
open Go Go.RowKit
set_option linter.unusedVariables false
set_option linter.unusedSectionVars false
set_option linter.unusedSimpArgs false
theorem impl_zeros_f (n : Nat) (h : n ≤ 1048576) : impl_zeros.f (n : Int) = some (zerosB n) := by
  unfold impl_zeros.f strings_Repeat.f
  rw [if_pos (by omega), if_pos (by omega), if_pos (by decide)]
  simp only [Option.bind_some, Int.toNat_natCast]
  refine congrArg some ?_
  rw [repeat_zero]
  simp [zerosB, strOfNums]
theorem spec_l1Zeros_f (n : Nat) (h : n ≤ 1048576) : spec_l1Zeros.f (n : Int) = some (zerosB n) := by
  unfold spec_l1Zeros.f
  rw [if_pos (by omega), if_pos (by rw [Int.toNat_natCast]; omega), Int.toNat_natCast]
  rfl
end Go.Proofs.YtlljkankongifaaDoor.Abs.Pu
