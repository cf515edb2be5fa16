/- Graphs compared by the laws: one is the same as itself. -/
import Derived.Test.YtommgpkeicpokaaGreatDoorPSame
import Derived.Test.YtommgpkeicpokaaGreatDoorPLoop
namespace Go.Proofs.YtommgpkeicpokaaGreatDoor.Abs.Pu
open Go Go.RowKit
set_option linter.unusedVariables false
set_option linter.unusedSectionVars false
set_option linter.unusedSimpArgs false
theorem sameObjG_ev (o : Int × List Int) (hl : o.2.length ≤ 1099511627776) : Ev (fun k => laws_sameObj.f k o.1 o.2 o.1 o.2) true := by
  unfold laws_sameObj.f
  exact Ev.pos rfl (Ev.bind (sameInts_ev o.2 hl) (Ev.eq rfl))
theorem sameGraph_ev (r : List Int) (n : List (Int × List Int)) (hr : r.length ≤ 1099511627776) (hn : n.length ≤ 1099511627776) (ho : ∀ o ∈ n, o.2.length ≤ 1099511627776) : Ev (fun k => laws_sameGraph.f k r n r n) true := by
  unfold laws_sameGraph.f
  refine Ev.bind (sameInts_ev r hr) (Ev.pos rfl (Ev.pos rfl ?_))
  refine each_ev (n := n.length) (g := fun k i => laws_sameGraph.p14 k r n r n i) ?_ ?_
  · intro i hi ih
    refine Ev.step (fun k => by rw [laws_sameGraph.p14]) ?_
    rw [rdg hi, w64s (by omega)]
    exact Ev.pos (by omega) (Ev.pos (by omega) (Ev.pos (by omega) (Ev.pos (by omega) (Ev.pos (by omega) (Ev.bind (sameObjG_ev _ (ho _ (List.getElem_mem hi))) (Ev.pos rfl ih))))))
  · refine Ev.step (fun k => by rw [laws_sameGraph.p14]) ?_
    exact Ev.neg (by omega) (Ev.eq rfl)
end Go.Proofs.YtommgpkeicpokaaGreatDoor.Abs.Pu
