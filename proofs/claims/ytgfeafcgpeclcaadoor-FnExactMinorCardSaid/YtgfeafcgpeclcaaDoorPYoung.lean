/- isYoung: by the number. No condition. -/
import Derived.Test.YtgfeafcgpeclcaaDoorPRefs
namespace Go.Proofs.YtgfeafcgpeclcaaDoor.Abs
open Go Go.RowKit
set_option linter.unusedVariables false
set_option linter.unusedSectionVars false
set_option linter.unusedSimpArgs false

theorem impl_isYoung_f (a : Int) : impl_isYoung.f a = some (decide (refk a = 2)) := by
  unfold impl_isYoung.f
  rw [impl_RefKind_f, Option.bind_some]
end Go.Proofs.YtgfeafcgpeclcaaDoor.Abs
