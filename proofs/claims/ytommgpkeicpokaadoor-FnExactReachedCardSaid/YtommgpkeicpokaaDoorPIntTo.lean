/- Lists of whole numbers in the laws: a copy. -/
import Derived.Test.YtommgpkeicpokaaDoorPLoop
import Derived.Test.YtommgpkeicpokaaDoorPIntEq
import Derived.Test.YtommgpkeicpokaaDoorF3
namespace Go.Proofs.YtommgpkeicpokaaDoor.Abs
open Go Go.RowKit
set_option linter.unusedVariables false
set_option linter.unusedSectionVars false
set_option linter.unusedSimpArgs false
theorem toInt64S_ev (l : List Int) (hl : l.length ≤ 1048576) : Ev (fun k => laws_toInt64S.f k l) l := by
  unfold laws_toInt64S.f
  refine Ev.pos (by omega) (Ev.pos (by omega) ?_)
  rw [Int.toNat_natCast]
  refine fill_ev (g := fun k out i => laws_toInt64S.p8 k l out i) _ (fun i hi out ho r hr => ?_) (fun out ho => ?_)
  · refine Ev.step (fun k => by rw [laws_toInt64S.p8]) ?_
    rw [rd_get hi, w64s (by omega), Int.toNat_natCast]
    exact Ev.pos (by omega) (Ev.pos (by omega) (Ev.pos (by omega) (Ev.pos (by omega) (Ev.pos (by omega) hr))))
  · refine Ev.step (fun k => by rw [laws_toInt64S.p8]) ?_
    exact Ev.neg (by omega) (Ev.eq rfl)
end Go.Proofs.YtommgpkeicpokaaDoor.Abs
