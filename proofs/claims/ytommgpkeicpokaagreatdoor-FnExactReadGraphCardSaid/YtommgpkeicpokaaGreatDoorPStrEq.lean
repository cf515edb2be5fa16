/- Lists of texts in the laws: the comparison with itself. -/
import Derived.Test.YtommgpkeicpokaaGreatDoorPLoop
import Derived.Test.YtommgpkeicpokaaGreatDoorPBits
import Derived.Test.YtommgpkeicpokaaGreatDoorF3
namespace Go.Proofs.YtommgpkeicpokaaGreatDoor.Abs
open Go Go.RowKit
set_option linter.unusedVariables false
set_option linter.unusedSectionVars false
set_option linter.unusedSimpArgs false
theorem eqStringS_ev (l : List ByteArray) (hl : l.length ≤ 1048576) : Ev (fun k => laws_eqStringS.f k l l) true := by
  unfold laws_eqStringS.f
  refine Ev.pos rfl ?_
  refine each_ev (n := l.length) (g := fun k i => laws_eqStringS.p14 k l l i) (fun i hi hr => ?_) ?_
  · refine Ev.step (fun k => by rw [laws_eqStringS.p14]) ?_
    rw [w64s (by omega)]
    exact Ev.pos (by omega) (Ev.pos (by omega) (Ev.pos (by omega) (Ev.pos (by omega) (Ev.pos (by omega) (Ev.pos rfl hr)))))
  · refine Ev.step (fun k => by rw [laws_eqStringS.p14]) ?_
    exact Ev.neg (by omega) (Ev.eq rfl)
end Go.Proofs.YtommgpkeicpokaaGreatDoor.Abs
