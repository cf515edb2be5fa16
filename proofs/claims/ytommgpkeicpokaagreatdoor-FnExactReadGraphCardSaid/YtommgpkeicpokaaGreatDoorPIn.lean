/- Ranges: what the reference and the program ask. No condition. -/
import Derived.Test.YtommgpkeicpokaaGreatDoorPBase
import Derived.Test.YtommgpkeicpokaaGreatDoorF3
namespace Go.Proofs.YtommgpkeicpokaaGreatDoor.Abs
open Go Go.RowKit
set_option linter.unusedVariables false
set_option linter.unusedSectionVars false
set_option linter.unusedSimpArgs false
theorem l1In_f (a lo hi : Int) : spec_l1In.f a lo hi = some (decide (lo ≤ a) && decide (a ≤ hi)) := by
  unfold spec_l1In.f
  split
  · rename_i h; simp [show lo ≤ a from h]
  · rename_i h; have : ¬ lo ≤ a := h; simp [this]
theorem within_f (a lo hi : Int) : impl_within.f a lo hi = some (decide (lo ≤ a) && decide (a ≤ hi)) := by
  unfold impl_within.f
  split
  · rename_i h; simp [show lo ≤ a from h]
  · rename_i h; have : ¬ lo ≤ a := h; simp [this]
end Go.Proofs.YtommgpkeicpokaaGreatDoor.Abs
