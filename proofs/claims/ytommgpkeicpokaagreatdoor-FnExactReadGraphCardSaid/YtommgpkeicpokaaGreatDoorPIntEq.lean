/- Lists of whole numbers in the laws: the comparison with itself. -/
import Derived.Test.YtommgpkeicpokaaGreatDoorPLoop
import Derived.Test.YtommgpkeicpokaaGreatDoorF3
namespace Go.Proofs.YtommgpkeicpokaaGreatDoor.Abs
open Go Go.RowKit
set_option linter.unusedVariables false
set_option linter.unusedSectionVars false
set_option linter.unusedSimpArgs false
theorem eqInt64S_ev (l : List Int) (hl : l.length ≤ 1048576) : Ev (fun k => laws_eqInt64S.f k l l) true := by
  unfold laws_eqInt64S.f
  refine Ev.pos rfl ?_
  refine each_ev (n := l.length) (g := fun k i => laws_eqInt64S.p14 k l l i) (fun i hi hr => ?_) ?_
  · refine Ev.step (fun k => by rw [laws_eqInt64S.p14]) ?_
    rw [w64s (by omega)]
    exact Ev.pos (by omega) (Ev.pos (by omega) (Ev.pos (by omega) (Ev.pos (by omega) (Ev.pos (by omega) (Ev.pos rfl hr)))))
  · refine Ev.step (fun k => by rw [laws_eqInt64S.p14]) ?_
    exact Ev.neg (by omega) (Ev.eq rfl)
end Go.Proofs.YtommgpkeicpokaaGreatDoor.Abs
