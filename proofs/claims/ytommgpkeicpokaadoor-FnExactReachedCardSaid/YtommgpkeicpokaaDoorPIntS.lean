/- Lists of whole numbers in the laws: their size, a copy, the comparison with itself. -/
import Derived.Test.YtommgpkeicpokaaDoorPLoop
import Derived.Test.YtommgpkeicpokaaDoorPIntEq
import Derived.Test.YtommgpkeicpokaaDoorPIntTo
import Derived.Test.YtommgpkeicpokaaDoorF3
namespace Go.Proofs.YtommgpkeicpokaaDoor.Abs
open Go Go.RowKit
set_option linter.unusedVariables false
set_option linter.unusedSectionVars false
set_option linter.unusedSimpArgs false
theorem szInt64S_f (l : List Int) (hl : l.length ≤ maxLen) (left : Int) (h0 : 0 ≤ left) (h1 : left ≤ 1048576) : ∃ r, laws_szInt64S.f l left = some r ∧ (0 ≤ r → r ≤ left ∧ l.length ≤ 1048576) := by
  unfold maxLen at hl
  unfold laws_szInt64S.f
  rw [w64 (x := left - (l.length : Int)) (by omega) (by omega)]
  by_cases c : left - (l.length : Int) < 0
  · exact ⟨-1, by rw [if_pos c], fun h => by omega⟩
  · exact ⟨_, by rw [if_neg c], fun h => ⟨by omega, by omega⟩⟩
end Go.Proofs.YtommgpkeicpokaaDoor.Abs
